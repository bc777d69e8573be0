/- A region that draws its order, in which some calls (loud) each turn the world from one stage into the next: the class of worlds is told by what is done, and by what it yielded. places of the reference. places of the reference at arrays and structs; places of any layout. Where a path leads: plain. A place is a multiple of the alignment of what is there: plain. step of the reference. Where a part stands, of the program. Layouts of one shape: plain. An append to a row of the call's own, told which block holds it behind it; layouts in new memory. part of the program's coder. find of the reference. find of the program's coder. Copy of the program, Same of the reference. A layout and a target that came in, opened, with the count of the layout. Conditions: as each theorem says. -/
import Derived.Test.YtbgbalfhbficaaaCz2
import Derived.Test.YtbgbalfhbficaaaCz9
import Derived.Test.YtbgbalfhbficaaaCz4
namespace Go.Proofs.Ytbgbalfhbficaaa
set_option maxRecDepth 100000
set_option maxHeartbeats 2000000
open Go.RowKit
set_option linter.unusedVariables false
set_option linter.unusedSimpArgs false
namespace Ri
def gotN (l : List Oper) (loud fixed nk : List Nat) (k j : Nat) : Bool := gotB l loud fixed k j && (isIn fixed j || !isIn nk k)
theorem gotN_dep {l : List Oper} {loud fixed nk : List Nat} {k j : Nat} (h : gotN l loud fixed nk k j = true) : dep l.toArray l.length k j = true := by
 unfold gotN at h
 rw [Bool.and_eq_true] at h
 exact got_dep h.1
def useN (l : List Oper) (loud fixed nk : List Nat) : Bool :=
 loud.all fun k => (List.range l.length).all fun j => j == k || isIn fixed j || dep l.toArray l.length j k || (List.range l.length).all fun i => !gotN l loud fixed nk i j || i == k || dep l.toArray l.length k i
theorem useN_of {l : List Oper} {loud fixed nk : List Nat} (h : useN l loud fixed nk = true) {k j : Nat} (hk : isIn loud k = true) (hj : j < l.length) (hne : j ≠ k) (hf : isIn fixed j = false) (hw : dep l.toArray l.length j k = false) : ∀ i, i < l.length → gotN l loud fixed nk i j = true → i = k ∨ dep l.toArray l.length k i = true := fun i hi hd => by
 have h1 := List.all_eq_true.1 h k (by simpa [isIn] using hk)
 have h2 := List.all_eq_true.1 h1 j (List.mem_range.2 hj)
 have e : (j == k) = false := by simpa using hne
 rw [e, hf, hw, Bool.false_or, Bool.false_or, Bool.false_or] at h2
 have h3 := List.all_eq_true.1 h2 i (List.mem_range.2 hi)
 rw [hd] at h3
 simpa using h3
abbrev StepY (C : (Nat → Bool) → (Nat → Value) → World → Prop) (loud fixed nk : List Nat) (P : Program) (R : Exit → Act → World → Prop) (l : List Oper) (a : Act) (φ : Nat → Value → World → Prop) (k : Nat) (o : Oper) : Prop :=
 ∀ (S : Nat → Bool) (f : Nat → Value) (w : World), S k = false → (∀ j (_ : dep l.toArray l.length k j = true := by kernel_rfl), S j = true) → C S f w → (∀ j (_ : gotN l loud fixed nk k j = true := by kernel_rfl), φ j (f j) w) → ∀ A : Act, (∀ d i (_ : ((l[i]?).bind (·.dst)) = some d := by kernel_rfl) (_ : d < a.tmps.size := by simp), A.eval (.tmp d) = f i) → (∀ d (_ : apartD (some d) l = true := by kernel_rfl), A.eval (.tmp d) = a.eval (.tmp d)) → (∀ j (_ : dep l.toArray l.length j k = true := by kernel_rfl), S j = false ∧ f j = old a l j) →
   (Want l a f o true ∧ o.wp P A w (fun a' w' => ∃ v, a' = A.put o.dst v ∧ (if isIn loud k then C (upd S k true) (upd f k v) w' else Q w w') ∧ φ k v w') R) ∨ (Want l a f o false ∧ isIn loud k = false ∧ φ k undef w)
section
variable {C : (Nat → Bool) → (Nat → Value) → World → Prop} {loud fixed nk : List Nat} {P : Program} {R : Exit → Act → World → Prop} {l : List Oper} {a : Act} {φ : Nat → Value → World → Prop} {k g d : Nat} {b : Bool} {o : Oper}
theorem StepY.q (hk : isIn loud k = false := by kernel_rfl) (hg : o.guard = none := by rfl)
  (h : ∀ (S : Nat → Bool) (f : Nat → Value) (w : World), S k = false → (∀ j (_ : dep l.toArray l.length k j = true := by kernel_rfl), S j = true) → C S f w → (∀ j (_ : gotN l loud fixed nk k j = true := by kernel_rfl), φ j (f j) w) → ∀ A : Act, (∀ d i (_ : ((l[i]?).bind (·.dst)) = some d := by kernel_rfl) (_ : d < a.tmps.size := by simp), A.eval (.tmp d) = f i) → (∀ d (_ : apartD (some d) l = true := by kernel_rfl), A.eval (.tmp d) = a.eval (.tmp d)) → (∀ j (_ : dep l.toArray l.length j k = true := by kernel_rfl), S j = false ∧ f j = old a l j) → o.wp P A w (fun a' w' => ∃ v, a' = A.put o.dst v ∧ Q w w' ∧ φ k v w') R) : StepY C loud fixed nk P R l a φ k o := fun S f w h1 h2 hc hf A hA hB hO =>
 .inl ⟨.inl ⟨rfl, hg⟩, Oper.wp_mono (fun a' w' ⟨v, e, hq, hp⟩ => ⟨v, e, by rw [hk]; exact hq, hp⟩) (h S f w h1 @h2 hc @hf A @hA @hB @hO)⟩
theorem StepY.c (hk : isIn loud k = true := by kernel_rfl) (hg : o.guard = none := by rfl)
  (h : ∀ (S : Nat → Bool) (f : Nat → Value) (w : World), S k = false → (∀ j (_ : dep l.toArray l.length k j = true := by kernel_rfl), S j = true) → C S f w → (∀ j (_ : gotN l loud fixed nk k j = true := by kernel_rfl), φ j (f j) w) → ∀ A : Act, (∀ d i (_ : ((l[i]?).bind (·.dst)) = some d := by kernel_rfl) (_ : d < a.tmps.size := by simp), A.eval (.tmp d) = f i) → (∀ d (_ : apartD (some d) l = true := by kernel_rfl), A.eval (.tmp d) = a.eval (.tmp d)) → (∀ j (_ : dep l.toArray l.length j k = true := by kernel_rfl), S j = false ∧ f j = old a l j) → o.wp P A w (fun a' w' => ∃ v, a' = A.put o.dst v ∧ C (upd S k true) (upd f k v) w' ∧ φ k v w') R) : StepY C loud fixed nk P R l a φ k o := fun S f w h1 h2 hc hf A hA hB hO =>
 .inl ⟨.inl ⟨rfl, hg⟩, Oper.wp_mono (fun a' w' ⟨v, e, hq, hp⟩ => ⟨v, e, by rw [hk]; exact hq, hp⟩) (h S f w h1 @h2 hc @hf A @hA @hB @hO)⟩
theorem StepY.gq (hk : isIn loud k = false) (hg : o.guard = some (g, b)) (h2 : ((l[g]?).bind (·.dst)) = some d) (h3 : d < a.tmps.size)
  (h : ∀ (S : Nat → Bool) (f : Nat → Value) (w : World), S k = false → (∀ j (_ : dep l.toArray l.length k j = true := by kernel_rfl), S j = true) → C S f w → (∀ j (_ : gotN l loud fixed nk k j = true := by kernel_rfl), φ j (f j) w) → ∀ A : Act, (∀ d i (_ : ((l[i]?).bind (·.dst)) = some d := by kernel_rfl) (_ : d < a.tmps.size := by simp), A.eval (.tmp d) = f i) → (∀ d (_ : apartD (some d) l = true := by kernel_rfl), A.eval (.tmp d) = a.eval (.tmp d)) → (∀ j (_ : dep l.toArray l.length j k = true := by kernel_rfl), S j = false ∧ f j = old a l j) → f g = .bool b ∧ o.wp P A w (fun a' w' => ∃ v, a' = A.put o.dst v ∧ Q w w' ∧ φ k v w') R) : StepY C loud fixed nk P R l a φ k o := fun S f w x1 x2 hc hf A hA hB hO => by
 obtain ⟨e, hw⟩ := h S f w x1 @x2 hc @hf A @hA @hB @hO
 exact .inl ⟨.inr ⟨g, b, d, hg, h2, h3, e⟩, Oper.wp_mono (fun a' w' ⟨v, e, hq, hp⟩ => ⟨v, e, by rw [hk]; exact hq, hp⟩) hw⟩
theorem StepY.off (hk : isIn loud k = false) (hg : o.guard = some (g, b)) (h2 : ((l[g]?).bind (·.dst)) = some d) (h3 : d < a.tmps.size)
  (h : ∀ (S : Nat → Bool) (f : Nat → Value) (w : World), C S f w → (∀ j (_ : gotN l loud fixed nk k j = true := by kernel_rfl), φ j (f j) w) → f g = .bool (!b) ∧ φ k undef w) : StepY C loud fixed nk P R l a φ k o := fun S f w x1 x2 hc hf A hA hB hO => by
 obtain ⟨e, hp⟩ := h S f w hc @hf
 exact .inr ⟨.inr ⟨g, b, d, hg, h2, h3, e⟩, hk, hp⟩
end
theorem upd_at {α : Type} (f : Nat → α) (k : Nat) (v : α) : upd f k v k = v := by unfold upd; rw [if_pos rfl]
theorem upd_ne {α : Type} (f : Nat → α) {k j : Nat} (v : α) (h : j ≠ k) : upd f k v j = f j := by unfold upd; rw [if_neg h]
theorem madeY {C : (Nat → Bool) → (Nat → Value) → World → Prop} (loud fixed nk : List Nat) {P : Program} {id : Nat} {R : Exit → Act → World → Prop} {a : Act} {w : World} {l : List Oper} (hCq : ∀ S S2 f f2 w1 w2, (∀ k, isIn loud k = true → S2 k = S k ∧ f2 k = f k) → C S f w1 → Q w1 w2 → C S2 f2 w2) (φ : Nat → Value → World → Prop) (hm : P.follows .mixedOrders = true) (hB : chk l = true) (hU : useN l loud fixed nk = true)
  (hC : C (fun _ => false) (old a l) w.drew) (hmono : ∀ i v w1 w2, φ i v w1 → Q w1 w2 → φ i v w2) (hfix : ∀ i, isIn fixed i = true → ∀ v w1 w2, φ i v w1 → φ i v w2) (hstep : All (StepY C loud fixed nk P R l a φ) 0 l)
  (hend : ∀ S f w', (∀ k, k < l.length → S k = true) → C S f w' → (∀ j, j < l.length → isIn fixed j = true → φ j (f j) w') → R .normal (acts f 0 l a) w') : (Code.region id l.toArray true).wp P R a w := by
 unfold chk at hB
 rw [Bool.and_eq_true] at hB
 have hev : ∀ (f : Nat → Value) d i, ((l[i]?).bind (·.dst)) = some d → d < a.tmps.size → (acts f 0 l a).eval (.tmp d) = f i := fun f d i hdi hs => acts_get l 0 a hB.1 (Nat.zero_le _) (by simpa using hdi) hs
 have hsame : ∀ (f : Nat → Value) d, apartD (some d) l = true → (acts f 0 l a).eval (.tmp d) = a.eval (.tmp d) := fun f d hd' => acts_same l 0 a hd'
 refine wp_region_any hm ?_
 have hst : a = acts (old a l) 0 l a := start
 have key := any (P := P) (ops := l.toArray) (R := R) (A := fun f => acts f 0 l a) (fun S f w' => C S f w' ∧ (∀ j, j < l.length → S j = true → (isIn fixed j = true ∨ ∃ i, i < l.length ∧ gotN l loud fixed nk i j = true ∧ S i = false) → φ j (f j) w') ∧ ∀ j, S j = false → f j = old a l j)
  (fun f i o v ho => acts_upd v l 0 a hB.1 (Nat.zero_le _) (by simpa using ho)) hB.2
  (fun S f w1 i o ho hSi hdep hwait hJ => by
   have ho' : l[i]? = some o := by simpa using ho
   have hil : i < l.length := (List.getElem?_eq_some_iff.1 ho').1
   have hs := all_get hstep ho'
   rw [Nat.zero_add] at hs
   have hjl : ∀ j, dep l.toArray l.length i j = true → j < l.length := fun j hj => by
    refine Classical.byContradiction fun hge => ?_
    exact absurd hj (by rw [dep_far hB.2 l.length i j (by simpa using hge)]; exact Bool.false_ne_true)
   have hdl : ∀ j, gotN l loud fixed nk i j = true → φ j (f j) w1 := fun j hj => hJ.2.1 j (hjl j (gotN_dep hj)) (hdep j (by simpa using gotN_dep hj)) (.inr ⟨i, hil, hj, hSi⟩)
   have := hs S f w1 hSi (fun j hj => hdep j (by simpa using hj)) hJ.1 hdl _ (hev f) (hsame f) (fun j hj => ⟨hwait j (by simpa using hj), hJ.2.2 j (hwait j (by simpa using hj))⟩)
   have grow : ∀ v w2, (if isIn loud i then C (upd S i true) (upd f i v) w2 else Q w1 w2) → φ i v w2 → (C (upd S i true) (upd f i v) w2 ∧ (∀ j, j < l.length → upd S i true j = true → (isIn fixed j = true ∨ ∃ i', i' < l.length ∧ gotN l loud fixed nk i' j = true ∧ upd S i true i' = false) → φ j (upd f i v j) w2) ∧ ∀ j, upd S i true j = false → upd f i v j = old a l j) := fun v w2 hq hφ => by
    refine ⟨?_, fun j hj hSj hal => ?_, fun j hSj => ?_⟩
    ·cases hl : isIn loud i with
     | true => rw [hl] at hq; exact hq
     | false =>
      rw [hl] at hq
      refine hCq _ _ _ _ _ _ (fun k hk => ?_) hJ.1 hq
      have hne : k ≠ i := fun e => by rw [e, hl] at hk; cases hk
      unfold upd
      rw [if_neg hne, if_neg hne]
      exact ⟨rfl, rfl⟩
    ·by_cases e : j = i
     ·unfold upd
      rw [if_pos e, e]
      exact hφ
     ·have e1 : upd f i v j = f j := by unfold upd; rw [if_neg e]
      have e2 : S j = true := by unfold upd at hSj; rw [if_neg e] at hSj; exact hSj
      have hal0 : isIn fixed j = true ∨ ∃ i', i' < l.length ∧ gotN l loud fixed nk i' j = true ∧ S i' = false := by
       rcases hal with h | ⟨i', h1, h2, h3⟩
       ·exact .inl h
       ·refine .inr ⟨i', h1, h2, ?_⟩
        unfold upd at h3
        by_cases e3 : i' = i
        ·rw [if_pos e3] at h3; cases h3
        ·rw [if_neg e3] at h3; exact h3
      have hp := hJ.2.1 j hj e2 hal0
      rw [e1]
      cases hl : isIn loud i with
      | false => rw [hl] at hq; exact hmono _ _ _ _ hp hq
      | true =>
       cases hfx : isIn fixed j with
       | true => exact hfix j hfx _ _ _ hp
       | false =>
        exfalso
        cases hdj : dep l.toArray l.length j i with
        | true =>
         have := hwait j (by simpa using hdj)
         rw [e2] at this
         cases this
        | false =>
         have hu := useN_of hU hl hj e hfx hdj
         rcases hal with h | ⟨i', h1, h2, h3⟩
         ·rw [hfx] at h; cases h
         ·rcases hu i' h1 h2 with h4 | h4
          ·subst h4
           unfold upd at h3
           rw [if_pos rfl] at h3
           cases h3
          ·have h5 := hdep i' (by simpa using h4)
           unfold upd at h3
           by_cases e3 : i' = i
           ·rw [if_pos e3] at h3; cases h3
           ·rw [if_neg e3, h5] at h3; cases h3
    ·unfold upd at hSj ⊢
     by_cases e : j = i
     ·rw [if_pos e] at hSj; cases hSj
     ·rw [if_neg e] at hSj ⊢
      exact hJ.2.2 j hSj
   rcases this with ⟨hw, hwp⟩ | ⟨hw, hlf, hφ⟩
   ·rw [if_pos (wanted_of hB.1 hw)]
    exact Oper.wp_mono (fun a' w2 ⟨v, e, hq, hφ⟩ => ⟨v, e, grow v w2 hq hφ⟩) hwp
   ·rw [if_neg (by rw [wanted_of hB.1 hw]; exact Bool.false_ne_true)]
    refine grow undef w1 ?_ hφ
    rw [hlf]
    exact Q.refl _)
  (fun S f w1 hall hJ => hend S f w1 (fun j hj => hall j (by simpa using hj)) hJ.1 (fun j hj hfx => hJ.2.1 j hj (hall j (by simpa using hj)) (.inl hfx)))
  l.toArray.size (Array.replicate l.toArray.size false) (old a l) { w with drawn := w.drawn + 1 } (by simp) (by simp) (fun i o ho h => absurd h (by rw [getD_rep]; exact Bool.false_ne_true)) ⟨hCq _ _ _ _ _ _ (fun k _ => ⟨getD_rep .., rfl⟩) hC (Q.refl _), fun j hj h => absurd h (by show ¬ _ = _; dsimp only; rw [getD_rep]; exact Bool.false_ne_true), fun j _ => rfl⟩
 rw [← hst] at key
 exact key
end Ri
def noL : Lay := .mk 0 0 false none 0 0 []
def numP (l : Lay) : Nat := if l.k = 4 then 1 else if l.k = 5 then l.n.toNat else if l.k = 6 ∨ l.k = 8 then l.parts.length else 0
def subL (l : Lay) (j : Nat) : Lay := if l.k = 5 then (l.parts[0]?).getD noL else (l.parts[j]?).getD noL
def atL (wd : Int) (l : Lay) (j : Nat) : Int := if l.k = 5 then j * szL wd (subL l j) else if l.k = 6 then upI (standR ((l.parts.map (Lay.room wd)).take j)).1 (((l.parts.map (Lay.room wd))[j]?).getD (0, 1)).2 else 0
def plcC (wd : Int) (l : Lay) (j : Nat) : List Value := .int .i64 (atL wd l j) :: encL (subL l j)
def rowsP (wd : Int) (l : Lay) (m : Nat) : List Value := (List.range m).flatMap (plcC wd l)
theorem rowsP_succ (wd : Int) (l : Lay) (m : Nat) : rowsP wd l (m + 1) = rowsP wd l m ++ plcC wd l m := by
 unfold rowsP
 rw [List.range_succ, List.flatMap_append]
 simp
theorem sub_get {l p : Lay} {j : Nat} (hk : l.k ≠ 5) (h : l.parts[j]? = some p) : subL l j = p := by
 unfold subL
 rw [if_neg hk, h]
 rfl
theorem sub_arr {l p : Lay} {j : Nat} (hk : l.k = 5) (h : l.parts[0]? = some p) : subL l j = p := by
 unfold subL
 rw [if_pos hk, h]
 rfl
theorem El_plc : El Try.prog 135 107 5 56 := El.of (z := .agg #[.int .i64 0, .int .i64 0, .int .i64 0, .bool false, .slice none 0 0]) Try.underlying135 (by kernel_rfl) rfl (by decide) (by decide)
namespace Ri
theorem wp_appY {P : Program} {t e size bytes : Nat} {w : World} {base : Nat} {R : Exit → Act → World → Prop} {o : Oper} {A : Act} {D : Value → World → Prop} (E : El P t e size bytes) (s x : Operand) (ho : o.op = .call { callee := .builtin .append, args := #[s, x], argTypes := #[t, t] })
  {v : Value} {n k m c : Nat} {xs news : List Value} (hs : A.eval s = v) (hx : A.eval x = .slice (some ⟨k, 0, none⟩) m c) (hown : w.ownsRow base e size v n xs) (hl : news.length = m * size) (hr : ∀ j u, news[j]? = some u → w.cell? ⟨k, j, none⟩ = some u) (h1 : ∀ u ∈ news, u.oneCell' = true)
  (hb : (n + m) * bytes ≤ 140737488355328) (hbase : base ≤ w.heap.size) (h : ∀ v' w', w'.ownsRow base e size v' (n + m) (xs ++ news) → w.grownBy w' v.ownBlock → D v' w') :
  o.wp P A w (fun a' w' => ∃ v, a' = A.put o.dst v ∧ D v w') R := by
 obtain ⟨i, z, hi, hz, hsz, hby, hzs⟩ := E.inf
 have hle : n + m ≤ (n + m) * bytes := Nat.le_mul_of_pos_right _ E.bpos
 refine wp_append_own w s x t ho base e i z size bytes E.und hi hz hsz hby hzs E.pos v n xs hs hown ⟨k, 0, none⟩ m c news hx hl (fun j u hu => ?_) h1 (by simp only [maxLen]; omega) hb hbase (fun v' w' h2 h3 _ => ⟨v', rfl, h v' w' h2 h3⟩)
 rw [addr_add, Nat.zero_add]
 exact hr j u hu
theorem wp_asgY {P : Program} {R : Exit → Act → World → Prop} {o : Oper} {A : Act} {w : World} {D : Value → World → Prop} {x : Operand} {v : Value} (ho : o.op = .assign x) (hx : A.eval x = v) (h : D v w) : o.wp P A w (fun a' w' => ∃ v, a' = A.put o.dst v ∧ D v w') R := by
 unfold Oper.wp
 rw [run_asg ho hx]
 exact ⟨v, rfl, h⟩
end Ri
def CY (k k2 : Nat) (w0 : World) (e s : Nat) (v : Value) (n m : Nat) (xs ys : List Value) (S : Nat → Bool) (f : Nat → Value) (W : World) : Prop :=
 Q w0 W ∧ (if S k = true then W.ownsRow w0.heap.size e s (f k) m ys else W.ownsRow w0.heap.size e s v n xs) ∧ (S k2 = true → f k2 = f k)
theorem CY.q {k k2 : Nat} {w0 : World} {e s : Nat} {v : Value} {n m : Nat} {xs ys : List Value} {S S2 : Nat → Bool} {f f2 : Nat → Value} {w1 w2 : World} (hk : ∀ i, Ri.isIn [k, k2] i = true → S2 i = S i ∧ f2 i = f i) (h : CY k k2 w0 e s v n m xs ys S f w1) (hq : Q w1 w2) : CY k k2 w0 e s v n m xs ys S2 f2 w2 := by
 obtain ⟨x1, x2⟩ := hk k (by simp [Ri.isIn])
 obtain ⟨y1, y2⟩ := hk k2 (by simp [Ri.isIn])
 refine ⟨h.1.trans hq, ?_, by rw [y1, y2, x2]; exact h.2.2⟩
 have h3 := h.2.1
 rw [x1, x2]
 split
 ·rename_i hc; rw [if_pos hc] at h3; exact own_q h3 hq
 ·rename_i hc; rw [if_neg hc] at h3; exact own_q h3 hq
theorem CY.app {k k2 : Nat} {w0 : World} {e s : Nat} {v : Value} {n m : Nat} {xs ys : List Value} {S : Nat → Bool} {f : Nat → Value} {w1 w2 : World} (h : CY k k2 w0 e s v n m xs ys S f w1) (hS : S k = false) (hS2 : S k2 = false) (hne : k2 ≠ k) {v' : Value} (ho : w2.ownsRow w0.heap.size e s v' m ys) (hg : w1.grownBy w2 v.ownBlock) : CY k k2 w0 e s v n m xs ys (Ri.upd S k true) (Ri.upd f k v') w2 := by
 have h3 := h.2.1
 rw [hS, if_neg (by decide)] at h3
 refine ⟨q_grown h.1 hg (fun j e => (h3.lt j e).1), ?_, fun h4 => ?_⟩
 ·rw [Ri.upd_at, if_pos rfl, Ri.upd_at]
  exact ho
 ·rw [Ri.upd_ne _ _ hne, hS2] at h4
  cases h4
theorem CY.asg {k k2 : Nat} {w0 : World} {e s : Nat} {v : Value} {n m : Nat} {xs ys : List Value} {S : Nat → Bool} {f : Nat → Value} {w1 : World} (h : CY k k2 w0 e s v n m xs ys S f w1) (hS : S k = true) (hne : k ≠ k2) : CY k k2 w0 e s v n m xs ys (Ri.upd S k2 true) (Ri.upd f k2 (f k)) w1 := by
 refine ⟨h.1, ?_, fun _ => by rw [Ri.upd_at, Ri.upd_ne _ _ hne]⟩
 have h3 := h.2.1
 rw [Ri.upd_ne _ _ hne, Ri.upd_ne _ _ hne]
 exact h3
theorem CY.end_ {k k2 : Nat} {w0 : World} {e s : Nat} {v : Value} {n m : Nat} {xs ys : List Value} {S : Nat → Bool} {f : Nat → Value} {w1 : World} (h : CY k k2 w0 e s v n m xs ys S f w1) (hS : S k = true) (hS2 : S k2 = true) : w1.ownsRow w0.heap.size e s (f k2) m ys ∧ Q w0 w1 := by
 have h3 := h.2.1
 rw [if_pos hS] at h3
 rw [h.2.2 hS2]
 exact ⟨h3, h.1⟩
theorem placesR4 {w : World} {l : Lay} (h : LayR w l) (hc : l.count ≤ 1048576) (wd : Int) (b : Bool) (ho : Okw wd l) (hk : l.k = 4) : ∀ W, Q w W → Calls Try.prog 109 #[l.v, tgW wd b] W (fun e w' => ∃ v, e = .returned v ∧ w'.ownsRow W.heap.size 107 5 v (numP l) (rowsP wd l (numP l)) ∧ Q W w') := by
 intro W hqW
 obtain ⟨k, n, f, A, len, cap, hlv⟩ : ∃ k n f A len cap, l.v = .agg #[.int .i64 k, .int .i64 n, .bool f, .slice A len cap] := by cases l; exact ⟨_, _, _, _, _, _, rfl⟩
 have hkk : k = 4 := by rw [show l.k = k by cases l; injection hlv with e; simp at e; exact e.1] at hk; exact hk
 subst hkk
 have HLV := hide hlv
 rw [hlv]
 clear hlv
 obtain ⟨w2, hw2⟩ : ∃ w2, (W.alloc (.cells #[.int .i64 4, .int .i64 n, .bool f, .slice A len cap] 24)).alloc (.cells #[.int .i64 wd, .bool b] 26) = w2 := ⟨_, rfl⟩
 obtain ⟨hq2, hs2, hc2, hd2⟩ := box2 hw2
 have hb0 : W.heap.size < w2.heap.size := by omega
 have hb1 : W.heap.size + 1 < w2.heap.size := by omega
 have KA := hide fun X (hX : Q w2 X) => (cs42 hX hb0 hc2 hb1 hd2 : Cs42 X W.heap.size (.int .i64 4) (.int .i64 n) (.bool f) (.slice A len cap) (W.heap.size + 1) (.int .i64 wd) (.bool b))
 have HW2 := hide hw2
 have HWQ := hide (hqW.trans hq2)
 have HQ2 := hide hq2
 have H := hide h
 clear h hw2 hq2 hqW hc2 hd2
 have HKL : Hid (l.k = 4 ∧ l.n = n) := hide (by cases l; injection HLV.out with e; simp at e; exact ⟨e.1, e.2.1⟩)
 have HSL : Hid (Sl 4 encL w A len cap l.parts) := hide (by
  cases H.out with
  | mk a1 a2 a3 a4 a5 a6 =>
   injection HLV.out with e
   simp at e
   obtain ⟨e1, e2, e3, e4, e5, e6⟩ := e
   subst e1 e2 e3 e4 e5 e6
   exact a3)
 have HAL : Hid (∀ p ∈ l.parts, LayR w p ∧ p.count ≤ 1048576) := hide (fun p hp => ⟨(by cases H.out with | mk a1 a2 a3 a4 a5 a6 => exact a6 p hp), by have := count_part hp; omega⟩)
 have HVL := hide ho.vl
 have HNP : Hid (numP l = numP l) := hide rfl
 have hlen1 : len = 1 := by
  have h9 := HVL.out
  cases l with
  | mk k0' n0' f0' A0' len0' cap0' ps0' =>
   have h8 := h9.kind.2.2.1
   have h7 : k0' = 4 := HKL.out.1
   unfold numL at h8
   rw [if_pos (.inl h7), decide_eq_true_eq] at h8
   exact HSL.out.len.symm.trans h8
 have hq := Q.refl w2
 obtain ⟨g, o, m', x', y', B, l', d', qs, e, hb, hx, z0, z1, z2, z3⟩ := lay_at (HSL.out.up (HWQ.out.trans hq)) (show 0 < len by omega)
 cases e
 obtain ⟨p, hpe⟩ : ∃ p, Lay.mk m' x' y' B l' d' qs = p := ⟨_, rfl⟩
 have hpv : p.v = .agg #[.int .i64 m', .int .i64 x', .bool y', .slice B l' d'] := by rw [← hpe]; rfl
 have hpe4 : encL p = [.int .i64 m', .int .i64 x', .bool y', .slice B l' d'] := by rw [← hpe]; rfl
 rw [hpe] at hx
 rw [Nat.zero_mul, Nat.add_zero] at z0 z1 z2 z3
 have hsub := sub_get (l := l) (j := 0) (by rw [HKL.out.1]; decide) hx
 have HROW : Hid (rowsP wd l (numP l) = [.int .i64 0, .int .i64 m', .int .i64 x', .bool y', .slice B l' d'] ∧ numP l = 1) := hide (by
  have hn : numP l = 1 := by unfold numP; rw [if_pos HKL.out.1]
  rw [hn]
  refine ⟨?_, rfl⟩
  unfold rowsP plcC
  have ha : atL wd l 0 = 0 := by unfold atL; rw [if_neg (by rw [HKL.out.1]; decide), if_neg (by rw [HKL.out.1]; decide)]
  simp [hsub, hpe4, ha])
 have HOWN := hide (World.ownsRow_nil w2 w2.heap.size 107 5)
 have hl1 : (0 : Int) < (len : Int) := by omega
 have hl2 : 0 < len := by omega
 have hl3 : ¬ len = 0 := by omega
 clear hlen1 hx hpe hpv hpe4 hsub hq
 have Q22 := hide (Q.refl w2)
 obtain ⟨k0, k1, k2, k3, t0, t1⟩ := KA.out w2 Q22.out
 go_enter Try.func109, Try.ntmps109
 go_upto_region 1 with fail
 rw [HW2.out]
 go_upto_region 4 with fail
 obtain ⟨v5, hv5⟩ : ∃ v5 : Value, Value.slice none 0 0 = v5 := ⟨_, rfl⟩
 rw [hv5]
 have HOW := HOWN
 rw [hv5] at HOW
 clear hv5
 go_wp2_with (at_builtin; go_loud (refine wpList_app1g rfl El_plc _ _ rfl rfl HOW.out (by first | omega | simp) rfl rfl ?_ ?_ ?_ ?_; (focus (simp [Value.oneCell'])); (focus omega); (focus omega); intro v8 w8 hown8 hg8; have HOW8 := hide hown8; have HG8 := hide hg8; clear hown8 hg8))
 go_ret
 exact ⟨_, rfl, by rw [HROW.out.1, HROW.out.2]; exact own_lower HOW8.out (by omega), HQ2.out.trans (q_grown (Q.refl w2) HG8.out (fun k e => (HOW.out.lt k e).1))⟩
theorem placesR8 {w : World} {l : Lay} (h : LayR w l) (hc : l.count ≤ 1048576) (wd : Int) (b : Bool) (ho : Okw wd l) (hk : l.k = 8) : ∀ W, Q w W → Calls Try.prog 109 #[l.v, tgW wd b] W (fun e w' => ∃ v, e = .returned v ∧ w'.ownsRow W.heap.size 107 5 v (numP l) (rowsP wd l (numP l)) ∧ Q W w') := by
 intro W hqW
 obtain ⟨k, n, f, A, len, cap, hlv⟩ : ∃ k n f A len cap, l.v = .agg #[.int .i64 k, .int .i64 n, .bool f, .slice A len cap] := by cases l; exact ⟨_, _, _, _, _, _, rfl⟩
 have hkk : k = 8 := by rw [show l.k = k by cases l; injection hlv with e; simp at e; exact e.1] at hk; exact hk
 subst hkk
 have HLV := hide hlv
 rw [hlv]
 clear hlv
 obtain ⟨w2, hw2⟩ : ∃ w2, (W.alloc (.cells #[.int .i64 8, .int .i64 n, .bool f, .slice A len cap] 24)).alloc (.cells #[.int .i64 wd, .bool b] 26) = w2 := ⟨_, rfl⟩
 obtain ⟨hq2, hs2, hc2, hd2⟩ := box2 hw2
 have hb0 : W.heap.size < w2.heap.size := by omega
 have hb1 : W.heap.size + 1 < w2.heap.size := by omega
 have KA := hide fun X (hX : Q w2 X) => (cs42 hX hb0 hc2 hb1 hd2 : Cs42 X W.heap.size (.int .i64 8) (.int .i64 n) (.bool f) (.slice A len cap) (W.heap.size + 1) (.int .i64 wd) (.bool b))
 have HW2 := hide hw2
 have HWQ := hide (hqW.trans hq2)
 have HQ2 := hide hq2
 have H := hide h
 clear h hw2 hq2 hqW hc2 hd2
 have HKL : Hid (l.k = 8 ∧ l.n = n) := hide (by cases l; injection HLV.out with e; simp at e; exact ⟨e.1, e.2.1⟩)
 have HSL : Hid (Sl 4 encL w A len cap l.parts) := hide (by
  cases H.out with
  | mk a1 a2 a3 a4 a5 a6 =>
   injection HLV.out with e
   simp at e
   obtain ⟨e1, e2, e3, e4, e5, e6⟩ := e
   subst e1 e2 e3 e4 e5 e6
   exact a3)
 have HAL : Hid (∀ p ∈ l.parts, LayR w p ∧ p.count ≤ 1048576) := hide (fun p hp => ⟨(by cases H.out with | mk a1 a2 a3 a4 a5 a6 => exact a6 p hp), by have := count_part hp; omega⟩)
 have HVL := hide ho.vl
 have HNP : Hid (numP l = numP l) := hide rfl
 have HLN := hide HSL.out.len
 have hl12 : len ≤ 12 := by
  cases l with
  | mk k0' n0' f0' A0' len0' cap0' ps0' =>
   have h1 : ps0'.length = len := HLN.out
   have h2 := HVL.out.len.1
   omega
 have Q22 := hide (Q.refl w2)
 obtain ⟨k0, k1, k2, k3, t0, t1⟩ := KA.out w2 Q22.out
 go_enter Try.func109, Try.ntmps109
 go_upto_region 1 with fail
 rw [HW2.out]
 go_wp2_with fail
 clear k0 k1 k2 k3 t0 t1
 go_loopw [5, 10] (fun v5 vi wr => ∃ j : Nat, j ≤ len ∧ vi = .int .i64 j ∧ wr.ownsRow w2.heap.size 107 5 v5 j (rowsP wd l j) ∧ Q w2 wr) (fun _ vi _ => len - (intOf vi).toNat)
 case atStart => exact ⟨0, by omega, by go_num, World.ownsRow_nil _ _ _ _, Q.refl _⟩
 case round =>
  obtain ⟨j, hj, rfl, hown, hq⟩ := hrel
  have HQ := hide hq
  have HOW := hide hown
  have k3 := (KA.out wr hq).2.2.2.1
  have hsr := hq.size
  by_cases hlt9 : j < len
  ·have hd1 : decide ((j : Int) < (len : Int)) = true := by simp; omega
   have hd0 : decide (j < len) = true := by simp; omega
   have hlti : (j : Int) < (len : Int) := by omega
   obtain ⟨g, o, m', x', y', B, l', d', qs, e, hb, hx, z0, z1, z2, z3⟩ := lay_at (HSL.out.up (HWQ.out.trans hq)) hlt9
   cases e
   obtain ⟨p, hpe⟩ : ∃ p, Lay.mk m' x' y' B l' d' qs = p := ⟨_, rfl⟩
   have hpv : p.v = .agg #[.int .i64 m', .int .i64 x', .bool y', .slice B l' d'] := by rw [← hpe]; rfl
   have hpe4 : encL p = [.int .i64 m', .int .i64 x', .bool y', .slice B l' d'] := by rw [← hpe]; rfl
   rw [hpe] at hx
   have hsub := sub_get (l := l) (j := j) (by rw [HKL.out.1]; decide) hx
   have HROW : Hid (rowsP wd l (j + 1) = rowsP wd l j ++ [.int .i64 0, .int .i64 m', .int .i64 x', .bool y', .slice B l' d']) := hide (by
    rw [rowsP_succ]
    have ha : atL wd l j = 0 := by unfold atL; rw [if_neg (by rw [HKL.out.1]; decide), if_neg (by rw [HKL.out.1]; decide)]
    unfold plcC
    rw [hsub, hpe4, ha])
   clear hx hpe hpv hpe4 hsub hq hown
   go_wp2_with (at_builtin; refine wpList_app1g rfl El_plc _ _ rfl rfl HOW.out (by simp) rfl rfl ?_ ?_ ?_ ?_; (focus (simp [Value.oneCell'])); (focus omega); (focus omega); intro v8 w8 hown8 hg8; have HOW8 := hide hown8; have HG8 := hide hg8; clear hown8 hg8)
   go_roundw
   case rel => exact ⟨j + 1, by omega, by go_num, by rw [HROW.out]; exact HOW8.out, q_grown HQ.out HG8.out (fun k e => (HOW.out.lt k e).1)⟩
   case measure => simp [intOf] <;> omega
  ·have hd1 : decide ((j : Int) < (len : Int)) = false := by simp; omega
   have hd0 : decide (j < len) = false := by simp; omega
   obtain rfl : j = len := by omega
   have HN8 : Hid (numP l = l.parts.length) := hide (by unfold numP; rw [HKL.out.1]; simp)
   clear hown hq
   go_wp2_with fail
   go_ret
   exact ⟨_, rfl, by rw [HN8.out, HLN.out]; exact own_lower HOW.out (by omega), HQ2.out.trans HQ.out⟩
theorem placesR0 {w : World} {l : Lay} (h : LayR w l) (hc : l.count ≤ 1048576) (wd : Int) (b : Bool) (ho : Okw wd l) (hk : l.k = 0 ∨ l.k = 1 ∨ l.k = 2 ∨ l.k = 3 ∨ l.k = 7 ∨ l.k = 9) : ∀ W, Q w W → Calls Try.prog 109 #[l.v, tgW wd b] W (fun e w' => ∃ v, e = .returned v ∧ w'.ownsRow W.heap.size 107 5 v (numP l) (rowsP wd l (numP l)) ∧ Q W w') := by
 intro W hqW
 obtain ⟨k, n, f, A, len, cap, hlv⟩ : ∃ k n f A len cap, l.v = .agg #[.int .i64 k, .int .i64 n, .bool f, .slice A len cap] := by cases l; exact ⟨_, _, _, _, _, _, rfl⟩
 have HLV := hide hlv
 rw [hlv]
 clear hlv
 obtain ⟨w2, hw2⟩ : ∃ w2, (W.alloc (.cells #[.int .i64 k, .int .i64 n, .bool f, .slice A len cap] 24)).alloc (.cells #[.int .i64 wd, .bool b] 26) = w2 := ⟨_, rfl⟩
 obtain ⟨hq2, hs2, hc2, hd2⟩ := box2 hw2
 have hb0 : W.heap.size < w2.heap.size := by omega
 have hb1 : W.heap.size + 1 < w2.heap.size := by omega
 have KA := hide fun X (hX : Q w2 X) => (cs42 hX hb0 hc2 hb1 hd2 : Cs42 X W.heap.size (.int .i64 k) (.int .i64 n) (.bool f) (.slice A len cap) (W.heap.size + 1) (.int .i64 wd) (.bool b))
 have HW2 := hide hw2
 have HWQ := hide (hqW.trans hq2)
 have HQ2 := hide hq2
 have H := hide h
 clear h hw2 hq2 hqW hc2 hd2
 have HKL : Hid (l.k = k ∧ l.n = n) := hide (by cases l; injection HLV.out with e; simp at e; exact ⟨e.1, e.2.1⟩)
 have HSL : Hid (Sl 4 encL w A len cap l.parts) := hide (by
  cases H.out with
  | mk a1 a2 a3 a4 a5 a6 =>
   injection HLV.out with e
   simp at e
   obtain ⟨e1, e2, e3, e4, e5, e6⟩ := e
   subst e1 e2 e3 e4 e5 e6
   exact a3)
 have HAL : Hid (∀ p ∈ l.parts, LayR w p ∧ p.count ≤ 1048576) := hide (fun p hp => ⟨(by cases H.out with | mk a1 a2 a3 a4 a5 a6 => exact a6 p hp), by have := count_part hp; omega⟩)
 have HVL := hide ho.vl
 have HNP : Hid (numP l = numP l) := hide rfl
 have HROW : Hid (numP l = 0) := hide (by unfold numP; rcases hk with h | h | h | h | h | h <;> (rw [h]; simp))
 have hk2 : k = 0 ∨ k = 1 ∨ k = 2 ∨ k = 3 ∨ k = 7 ∨ k = 9 := by have := HKL.out.1; omega
 have HOWN := hide (fun w' : World => World.ownsRow_nil w' W.heap.size 107 5)
 have HROW0 : Hid (rowsP wd l 0 = []) := hide rfl
 clear hk
 have d4 : (k == 4) = false := by simp; omega
 have d5 : (k == 5) = false := by simp; omega
 have d6 : (k == 6) = false := by simp; omega
 have d8 : (k == 8) = false := by simp; omega
 clear hk2
 have Q22 := hide (Q.refl w2)
 obtain ⟨k0, k1, k2, k3, t0, t1⟩ := KA.out w2 Q22.out
 go_enter Try.func109, Try.ntmps109
 go_upto_region 1 with fail
 rw [HW2.out]
 go_wp2_with fail
 go_ret
 exact ⟨_, rfl, by rw [HROW.out, HROW0.out]; exact HOWN.out _, HQ2.out⟩
theorem szL_bd {w : World} {l : Lay} (h : LayR w l) (wd : Int) : 0 ≤ szL wd l ∧ szL wd l ≤ 4096 := by
 unfold szL
 by_cases hz : eL wd l = 0
 ·rw [if_pos hz]
  have ho := eL_zero.1 hz
  exact ⟨(fr_cap h ho.vl (fr_valid h ho.valid) wd ho.word).2.1, ho.small⟩
 ·rw [if_neg hz]; omega
namespace Ri
theorem run_mulI {P : Program} {o : Oper} {A : Act} {w : World} {x y : Operand} {t t' : TypeId} {p u : Int} (ho : o.op = .binOp .mul t x y t') (hx : A.eval x = .int .i64 p) (hy : A.eval y = .int .i64 u) (hu : P.underlying t = some (.int .i64)) (h0 : -9223372036854775808 ≤ p * u) (h1 : p * u ≤ 9223372036854775807) : (execOp A.eval o).run P w = .ok (.value (.int .i64 (p * u))) w := by
 have e : IntKind.i64.wrap (p * u) = p * u := by rw [IntKind.wrap_i64]; omega
 unfold execOp
 simp only [ho, hx, hy]
 simp [go_sem, e]
end Ri
theorem placesR5 {w : World} {l : Lay} (h : LayR w l) (hc : l.count ≤ 1048576) (wd : Int) (b : Bool) (ho : Okw wd l) (hk : l.k = 5) : ∀ W, Q w W → Calls Try.prog 109 #[l.v, tgW wd b] W (fun e w' => ∃ v, e = .returned v ∧ w'.ownsRow W.heap.size 107 5 v (numP l) (rowsP wd l (numP l)) ∧ Q W w') := by
 intro W hqW
 obtain ⟨k, n, f, A, len, cap, hlv⟩ : ∃ k n f A len cap, l.v = .agg #[.int .i64 k, .int .i64 n, .bool f, .slice A len cap] := by cases l; exact ⟨_, _, _, _, _, _, rfl⟩
 have hkk : k = 5 := by rw [show l.k = k by cases l; injection hlv with e; simp at e; exact e.1] at hk; exact hk
 subst hkk
 have HLV := hide hlv
 rw [hlv]
 clear hlv
 obtain ⟨w2, hw2⟩ : ∃ w2, (W.alloc (.cells #[.int .i64 5, .int .i64 n, .bool f, .slice A len cap] 24)).alloc (.cells #[.int .i64 wd, .bool b] 26) = w2 := ⟨_, rfl⟩
 obtain ⟨hq2, hs2, hc2, hd2⟩ := box2 hw2
 have hb0 : W.heap.size < w2.heap.size := by omega
 have hb1 : W.heap.size + 1 < w2.heap.size := by omega
 have KA := hide fun X (hX : Q w2 X) => (cs42 hX hb0 hc2 hb1 hd2 : Cs42 X W.heap.size (.int .i64 5) (.int .i64 n) (.bool f) (.slice A len cap) (W.heap.size + 1) (.int .i64 wd) (.bool b))
 have HW2 := hide hw2
 have HWQ := hide (hqW.trans hq2)
 have HQ2 := hide hq2
 have H := hide h
 clear h hw2 hq2 hqW hc2 hd2
 have HKL : Hid (l.k = 5 ∧ l.n = n) := hide (by cases l; injection HLV.out with e; simp at e; exact ⟨e.1, e.2.1⟩)
 have HSL : Hid (Sl 4 encL w A len cap l.parts) := hide (by
  cases H.out with
  | mk a1 a2 a3 a4 a5 a6 =>
   injection HLV.out with e
   simp at e
   obtain ⟨e1, e2, e3, e4, e5, e6⟩ := e
   subst e1 e2 e3 e4 e5 e6
   exact a3)
 have HAL : Hid (∀ p ∈ l.parts, LayR w p ∧ p.count ≤ 1048576) := hide (fun p hp => ⟨(by cases H.out with | mk a1 a2 a3 a4 a5 a6 => exact a6 p hp), by have := count_part hp; omega⟩)
 have HVL := hide ho.vl
 have HNP : Hid (numP l = numP l) := hide rfl
 have HN5 : Hid (numP l = n.toNat) := hide (by unfold numP; rw [HKL.out.1, HKL.out.2]; simp)
 have hlen1 : len = 1 := by
  have h9 := HVL.out
  cases l with
  | mk k0' n0' f0' A0' len0' cap0' ps0' =>
   have h8 := h9.kind.2.2.1
   have h7 : k0' = 5 := HKL.out.1
   unfold numL at h8
   rw [if_pos (.inr h7), decide_eq_true_eq] at h8
   exact HSL.out.len.symm.trans h8
 have hn01 : 0 ≤ n ∧ n ≤ 1000 := by
  have h9 := HVL.out
  cases l with
  | mk k0' n0' f0' A0' len0' cap0' ps0' =>
   have h8 := h9.kind.2.2.2
   have h7 : k0' = 5 := HKL.out.1
   have h6 : n0' = n := HKL.out.2
   subst h7 h6
   unfold restL at h8
   rw [if_neg (by omega), if_pos rfl, decide_eq_true_eq] at h8
   exact ⟨h8, h9.len.2.2.1 rfl⟩
 obtain ⟨m, hm⟩ : ∃ m : Nat, n = (m : Int) := ⟨n.toNat, by omega⟩
 have hm1 : m ≤ 1000 := by omega
 have HNM : Hid (numP l = m) := hide (by rw [HN5.out]; omega)
 obtain ⟨hn0, hn1⟩ := hn01
 have hq := Q.refl w2
 obtain ⟨g, o, m', x', y', B, l', d', qs, e, hb, hx, z0, z1, z2, z3⟩ := lay_at (HSL.out.up (HWQ.out.trans hq)) (show 0 < len by omega)
 cases e
 obtain ⟨p, hpe⟩ : ∃ p, Lay.mk m' x' y' B l' d' qs = p := ⟨_, rfl⟩
 have hpv : p.v = .agg #[.int .i64 m', .int .i64 x', .bool y', .slice B l' d'] := by rw [← hpe]; rfl
 have hpe4 : encL p = [.int .i64 m', .int .i64 x', .bool y', .slice B l' d'] := by rw [← hpe]; rfl
 rw [hpe] at hx
 have hpm := List.mem_of_getElem? hx
 have HSZ := hide (fun W' hW' => rsize_any (HAL.out p hpm).1 (HAL.out p hpm).2 wd b W' hW')
 have hszb := szL_bd (HAL.out p hpm).1 wd
 obtain ⟨sz, hsz⟩ : ∃ sz, szL wd p = sz := ⟨_, rfl⟩
 rw [hsz] at hszb
 have HC := HSZ
 rw [hpv, hsz] at HC
 have HROW : Hid (∀ j : Nat, rowsP wd l (j + 1) = rowsP wd l j ++ [.int .i64 ((j : Int) * sz), .int .i64 m', .int .i64 x', .bool y', .slice B l' d']) := hide (fun j => by
  have hsub := sub_arr (l := l) (j := j) HKL.out.1 hx
  rw [rowsP_succ]
  have ha : atL wd l j = j * sz := by unfold atL; rw [if_pos HKL.out.1, hsub, hsz]
  unfold plcC
  rw [hsub, hpe4, ha])
 have HL1 := hide hlen1
 have hb2 := hb
 obtain ⟨hsz0, hsz1⟩ := hszb
 clear hlen1 hx hpe hpv hpe4 hq hsz hpm HSZ hb
 subst hm
 have Q22 := hide (Q.refl w2)
 obtain ⟨k0, k1, k2, k3, t0, t1⟩ := KA.out w2 Q22.out
 go_enter Try.func109, Try.ntmps109
 go_upto_region 1 with fail
 rw [HW2.out]
 go_wp2_with fail
 clear k0 k1 k2 k3 t0 t1
 go_loopw [5, 6] (fun v5 vi wr => ∃ j : Nat, j ≤ m ∧ vi = .int .i64 j ∧ wr.ownsRow w2.heap.size 107 5 v5 j (rowsP wd l j) ∧ Q w2 wr) (fun _ vi _ => m - (intOf vi).toNat)
 case atStart => exact ⟨0, by omega, by go_num, World.ownsRow_nil _ _ _ _, Q.refl _⟩
 case round =>
  obtain ⟨j, hj, rfl, hown, hq⟩ := hrel
  have HQ := hide hq
  have HOW := hide hown
  have k1 := (KA.out wr hq).2.1
  by_cases hlt9 : j < m
  ·have hd1 : decide ((j : Int) < (m : Int)) = true := by simp; omega
   have hd0 : decide (j < m) = true := by simp; omega
   have hlti : (j : Int) < (m : Int) := by omega
   have hat0 : 0 ≤ (j : Int) * sz := Int.mul_nonneg (by omega) hsz0
   have hat1 : (j : Int) * sz ≤ 1000 * 4096 := Int.le_trans (Int.mul_le_mul_of_nonneg_left hsz1 (by omega)) (Int.mul_le_mul_of_nonneg_right (by omega) (by omega))
   have HROWJ := hide (HROW.out j)
   obtain ⟨at9, hat9⟩ : ∃ a, (j : Int) * sz = a := ⟨_, rfl⟩
   rw [hat9] at HROWJ hat0 hat1
   have HAT := hide hat9
   obtain ⟨v5, hv5⟩ : ∃ v5, u5 = v5 := ⟨_, rfl⟩
   rw [hv5] at HOW ⊢
   clear hown hq hat9 hv5
   go_upto_region 9 with fail
   clear k1
   refine Ri.madeY (C := CY 15 16 w2 107 5 v5 j (j + 1) (rowsP wd l j) (rowsP wd l j ++ ((#[.int .i64 at9, .int .i64 m', .int .i64 x', .bool y', .slice B l' d'] : Array Value)).toList)) [15, 16] [0, 1, 2, 3, 4, 5, 6, 7, 8, 9, 10, 11, 12, 13, 15, 16] [] (fun S0 S2 f f2 w1 w2 hk X hq => X.q hk hq) (Ri.phi [Ri.isV (v5), Ri.isV (.int .i64 ((j : Nat) : Int)), Ri.isV (.pointer (some ⟨W.heap.size, 3, none⟩)), Ri.isV (.slice (some ⟨g, o, none⟩) len cap), Ri.isV (.pointer (some ⟨g, o + 0 * 4, none⟩)), Ri.isV (.agg #[.int .i64 m', .int .i64 x', .bool y', .slice B l' d']), Ri.isV (tgW wd b), Ri.isV (.int .i64 sz), Ri.isV (.int .i64 at9), Ri.isV (.pointer (some ⟨W.heap.size, 3, none⟩)), Ri.isV (.slice (some ⟨g, o, none⟩) len cap), Ri.isV (.pointer (some ⟨g, o + 0 * 4, none⟩)), Ri.isV (.agg #[.int .i64 m', .int .i64 x', .bool y', .slice B l' d']), Ri.isV (.agg #[.int .i64 at9, .int .i64 m', .int .i64 x', .bool y', .slice B l' d']), (fun v W => ∃ b, v = .slice (some ⟨b, 0, none⟩) 1 1 ∧ b < W.heap.size ∧ ∀ (j : Nat) u, ((#[.int .i64 at9, .int .i64 m', .int .i64 x', .bool y', .slice B l' d'] : Array Value)).toList[j]? = some u → W.cell? ⟨b, j, none⟩ = some u), (fun _ _ => True), (fun _ _ => True)]) (by kernel_rfl) (by kernel_rfl) (by kernel_rfl) (⟨HQ.out.trans (Q.refl _).drew, by rw [if_neg (by decide)]; exact own_q HOW.out (Q.refl _).drew, fun h => absurd h (by decide)⟩) (Ri.phi_mono ?_) (Ri.phi_fix ?_) ?_ ?_
   ·repeat' first | exact trivial | exact fun _ _ _ h _ => h | exact (fun _ w3 w4 ⟨b, e, hb, hc⟩ hq => ⟨b, e, Nat.lt_of_lt_of_le hb hq.size, fun j u hu => (hq.facts.1 _ _ hb).trans (hc j u hu)⟩) | refine ⟨?_, ?_⟩
   ·repeat' first | exact trivial | exact fun _ _ _ _ h => h | exact fun h => absurd h (by decide) | refine ⟨?_, ?_⟩
   ·refine Ri.All.cons ?_ (.cons ?_ (.cons ?_ (.cons ?_ (.cons ?_ (.cons ?_ (.cons ?_ (.cons ?_ (.cons ?_ (.cons ?_ (.cons ?_ (.cons ?_ (.cons ?_ (.cons ?_ (.cons ?_ (.cons ?_ (.cons ?_ (Ri.All.nil)))))))))))))))))
    ·refine Ri.StepY.q (h := fun S9 f9 W9 hS hD hq hf A9 hA hB hO => ?_)
     have e1 := (hA 5 16).trans ((hO 16).2.trans (show _ = v5 by simp [Ri.old]))
     exact Ri.wp_value _ (Ri.run_mv rfl e1) rfl
    ·refine Ri.StepY.q (h := fun S9 f9 W9 hS hD hq hf A9 hA hB hO => ?_)
     have e1 := (hB 6).trans (show _ = .int .i64 (j : Nat) by simp [Act.eval])
     exact Ri.wp_value _ (Ri.run_mv rfl e1) rfl
    ·refine Ri.StepY.q (h := fun S9 f9 W9 hS hD hq hf A9 hA hB hO => ?_)
     have e1 := (hB 2).trans (show _ = .pointer (some ⟨W.heap.size, 0, none⟩) by simp [Act.eval])
     exact Ri.wp_value _ (Ri.run_fld (f := _) rfl e1 Try.underlying24 rfl (sz := 0) (by kernel_rfl)) rfl
    ·refine Ri.StepY.q (h := fun S9 f9 W9 hS hD hq hf A9 hA hB hO => ?_)
     have e1 := (hA 33 2).trans (hf 2)
     exact Ri.wp_value _ (Ri.run_ld1 rfl e1 Try.underlying22 rfl ((KA.out W9 hq.1).2.2.2.1)) rfl
    ·refine Ri.StepY.q (h := fun S9 f9 W9 hS hD hq hf A9 hA hB hO => ?_)
     have e1 := (hA 34 3).trans (hf 3)
     have e2 : A9.eval (.const (.int .i64 0)) = .int .i64 ((0 : Nat) : Int) := rfl
     exact Ri.wp_value _ (Ri.run_idx rfl e1 e2 Try.underlying22 (sz := 4) (by kernel_rfl) (by have := HL1.out; omega)) rfl
    ·refine Ri.StepY.q (h := fun S9 f9 W9 hS hD hq hf A9 hA hB hO => ?_)
     have e1 := (hA 35 4).trans (hf 4)
     exact Ri.wp_value _ (Ri.run_ldagg (cs := [.int .i64 m', .int .i64 x', .bool y', .slice B l' d']) rfl e1 (c4G ((hq.1.facts.1 _ _ hb2).trans z0) ((hq.1.facts.1 _ _ hb2).trans z1) ((hq.1.facts.1 _ _ hb2).trans z2) ((hq.1.facts.1 _ _ hb2).trans z3)) Try.underlying24 rfl (by kernel_rfl)) rfl
    ·refine Ri.StepY.q (h := fun S9 f9 W9 hS hD hq hf A9 hA hB hO => ?_)
     have e1 := (hB 3).trans (show _ = .pointer (some ⟨W.heap.size + 1, 0, none⟩) by simp [Act.eval])
     obtain ⟨-, -, -, -, u0, u1⟩ := KA.out W9 hq.1
     exact Ri.wp_value _ (Ri.run_ldagg (cs := [.int .i64 wd, .bool b]) rfl e1 (c2L u0 u1) Try.underlying26 rfl (by kernel_rfl)) rfl
    ·refine Ri.StepY.q (h := fun S9 f9 W9 hS hD hq hf A9 hA hB hO => ?_)
     have e1 := (hA 36 5).trans (hf 5)
     have e2 := (hA 37 6).trans (hf 6)
     refine Ri.wp_call #[.agg #[.int .i64 m', .int .i64 x', .bool y', .slice B l' d'], tgW wd b] rfl (by simp [e1, e2]) Try.func125 (by kernel_rfl) (by kernel_rfl) ((HC.out W9 (HWQ.out.trans hq.1)).mono ?_)
     rintro e w9 ⟨rfl, h1⟩
     exact ⟨_, rfl, h1, rfl⟩
    ·refine Ri.StepY.q (h := fun S9 f9 W9 hS hD hq hf A9 hA hB hO => ?_)
     have e1 := (hA 32 1).trans (hf 1)
     have e2 := (hA 38 7).trans (hf 7)
     exact Ri.wp_value _ ((Ri.run_mulI rfl e1 e2 Try.underlying3 (by rw [HAT.out]; omega) (by rw [HAT.out]; omega)).trans (by rw [HAT.out])) rfl
    ·refine Ri.StepY.q (h := fun S9 f9 W9 hS hD hq hf A9 hA hB hO => ?_)
     have e1 := (hB 2).trans (show _ = .pointer (some ⟨W.heap.size, 0, none⟩) by simp [Act.eval])
     exact Ri.wp_value _ (Ri.run_fld (f := _) rfl e1 Try.underlying24 rfl (sz := 0) (by kernel_rfl)) rfl
    ·refine Ri.StepY.q (h := fun S9 f9 W9 hS hD hq hf A9 hA hB hO => ?_)
     have e1 := (hA 40 9).trans (hf 9)
     exact Ri.wp_value _ (Ri.run_ld1 rfl e1 Try.underlying22 rfl ((KA.out W9 hq.1).2.2.2.1)) rfl
    ·refine Ri.StepY.q (h := fun S9 f9 W9 hS hD hq hf A9 hA hB hO => ?_)
     have e1 := (hA 41 10).trans (hf 10)
     have e2 : A9.eval (.const (.int .i64 0)) = .int .i64 ((0 : Nat) : Int) := rfl
     exact Ri.wp_value _ (Ri.run_idx rfl e1 e2 Try.underlying22 (sz := 4) (by kernel_rfl) (by have := HL1.out; omega)) rfl
    ·refine Ri.StepY.q (h := fun S9 f9 W9 hS hD hq hf A9 hA hB hO => ?_)
     have e1 := (hA 42 11).trans (hf 11)
     exact Ri.wp_value _ (Ri.run_ldagg (cs := [.int .i64 m', .int .i64 x', .bool y', .slice B l' d']) rfl e1 (c4G ((hq.1.facts.1 _ _ hb2).trans z0) ((hq.1.facts.1 _ _ hb2).trans z1) ((hq.1.facts.1 _ _ hb2).trans z2) ((hq.1.facts.1 _ _ hb2).trans z3)) Try.underlying24 rfl (by kernel_rfl)) rfl
    ·refine Ri.StepY.q (h := fun S9 f9 W9 hS hD hq hf A9 hA hB hO => ?_)
     have e1 := (hA 39 8).trans (hf 8)
     have e2 := (hA 43 12).trans (hf 12)
     exact Ri.wp_struct rfl [(0, .int .i64 at9), (1, .agg #[.int .i64 m', .int .i64 x', .bool y', .slice B l' d'])] (by simp [e1, e2]) (by kernel_rfl) rfl
    ·refine Ri.StepY.q (h := fun S9 f9 W9 hS hD hq hf A9 hA hB hO => ?_)
     have e1 := (hA 44 13).trans (hf 13)
     obtain ⟨ti, hi9, hz9, hsz9, hby9⟩ := info_parts (show (Try.prog.info? 107).map (fun i => (i.zero, i.size, i.bytes)) = some (some (.agg #[.int .i64 0, .int .i64 0, .int .i64 0, .bool false, .slice none 0 0]), 5, 56) by kernel_rfl)
     refine wp_buildSlice 135 107 1 _ rfl (#[.int .i64 at9, .int .i64 m', .int .i64 x', .bool y', .slice B l' d'] : Array Value) ti _ Try.underlying135 hi9 hz9 (by rw [hsz9]; decide) (by rw [hsz9]; decide) ?_ ⟨_, rfl, (Q.refl W9).alloc _, W9.heap.size, rfl, by simp, fun j u hu => cell_blkJ (heap_alloc_new W9 _) (by simpa using hu)⟩
     rw [hsz9]
     simp only [List.map_toArray, List.map_cons, List.map_nil, e1]
     kernel_rfl
    ·refine Ri.StepY.c (h := fun S9 f9 W9 hS hD hq hf A9 hA hB hO => ?_)
     obtain ⟨b9, hb9, hl9, hc9⟩ : ∃ b, f9 14 = .slice (some ⟨b, 0, none⟩) 1 1 ∧ b < W9.heap.size ∧ ∀ (j : Nat) u, ((#[.int .i64 at9, .int .i64 m', .int .i64 x', .bool y', .slice B l' d'] : Array Value)).toList[j]? = some u → W9.cell? ⟨b, j, none⟩ = some u := hf 14
     have e1 := (hA 31 0).trans (show f9 0 = v5 from hf 0)
     have e2 := (hA 45 14).trans hb9
     have hown9 := hq.2.1
     rw [hS, if_neg (by decide)] at hown9
     refine Ri.wp_appY El_plc _ _ rfl e1 e2 hown9 (news := ((#[.int .i64 at9, .int .i64 m', .int .i64 x', .bool y', .slice B l' d'] : Array Value)).toList) rfl hc9 (by simp [Value.oneCell']) (by omega) hq.1.size (fun v9 w9 h2 h3 => ⟨hq.app hS (hO 16).1 (by decide) h2 h3, trivial⟩)
    ·refine Ri.StepY.c (h := fun S9 f9 W9 hS hD hq hf A9 hA hB hO => ?_)
     have e1 := hA 46 15
     exact Ri.wp_asgY rfl e1 ⟨hq.asg (hD 15) (by decide), trivial⟩
   ·intro S9 f9 w8 hS hq8 hf
    obtain ⟨hown8, hq28⟩ := hq8.end_ (hS 15 (by simp)) (hS 16 (by simp))
    simp only [Ri.acts, Act.put, List.setIfInBounds_toArray, List.set_cons_zero, List.set_cons_succ, Nat.zero_add, Nat.reduceAdd]
    obtain ⟨v8, hv8⟩ : ∃ v8, f9 16 = v8 := ⟨_, rfl⟩
    rw [hv8] at hown8 ⊢
    have HOW8 := hide hown8
    have HQ8 := hide hq28
    clear hown8 hq28 hq8 hf hS hv8
    go_wp2_with fail
    go_roundw
    case rel => exact ⟨j + 1, by omega, by go_num, by rw [HROWJ.out]; exact HOW8.out, HQ8.out⟩
    case measure => simp [intOf] <;> omega
  ·have hd1 : decide ((j : Int) < (m : Int)) = false := by simp; omega
   have hd0 : decide (j < m) = false := by simp; omega
   obtain rfl : j = m := by omega
   clear hown hq
   go_wp2_with fail
   go_ret
   exact ⟨_, rfl, by rw [HNM.out]; exact own_lower HOW.out (by omega), HQ2.out.trans HQ.out⟩
theorem placesR6 {w : World} {l : Lay} (h : LayR w l) (hc : l.count ≤ 1048576) (wd : Int) (b : Bool) (ho : Okw wd l) (hk : l.k = 6) : ∀ W, Q w W → Calls Try.prog 109 #[l.v, tgW wd b] W (fun e w' => ∃ v, e = .returned v ∧ w'.ownsRow W.heap.size 107 5 v (numP l) (rowsP wd l (numP l)) ∧ Q W w') := by
 intro W hqW
 obtain ⟨k, n, f, A, len, cap, hlv⟩ : ∃ k n f A len cap, l.v = .agg #[.int .i64 k, .int .i64 n, .bool f, .slice A len cap] := by cases l; exact ⟨_, _, _, _, _, _, rfl⟩
 have hkk : k = 6 := by rw [show l.k = k by cases l; injection hlv with e; simp at e; exact e.1] at hk; exact hk
 subst hkk
 have HLV := hide hlv
 rw [hlv]
 clear hlv
 obtain ⟨w2, hw2⟩ : ∃ w2, (W.alloc (.cells #[.int .i64 6, .int .i64 n, .bool f, .slice A len cap] 24)).alloc (.cells #[.int .i64 wd, .bool b] 26) = w2 := ⟨_, rfl⟩
 obtain ⟨hq2, hs2, hc2, hd2⟩ := box2 hw2
 have hb0 : W.heap.size < w2.heap.size := by omega
 have hb1 : W.heap.size + 1 < w2.heap.size := by omega
 have KA := hide fun X (hX : Q w2 X) => (cs42 hX hb0 hc2 hb1 hd2 : Cs42 X W.heap.size (.int .i64 6) (.int .i64 n) (.bool f) (.slice A len cap) (W.heap.size + 1) (.int .i64 wd) (.bool b))
 have HW2 := hide hw2
 have HWQ := hide (hqW.trans hq2)
 have HQ2 := hide hq2
 have H := hide h
 clear h hw2 hq2 hqW hc2 hd2
 have HKL : Hid (l.k = 6 ∧ l.n = n) := hide (by cases l; injection HLV.out with e; simp at e; exact ⟨e.1, e.2.1⟩)
 have HSL : Hid (Sl 4 encL w A len cap l.parts) := hide (by
  cases H.out with
  | mk a1 a2 a3 a4 a5 a6 =>
   injection HLV.out with e
   simp at e
   obtain ⟨e1, e2, e3, e4, e5, e6⟩ := e
   subst e1 e2 e3 e4 e5 e6
   exact a3)
 have HAL : Hid (∀ p ∈ l.parts, LayR w p ∧ p.count ≤ 1048576) := hide (fun p hp => ⟨(by cases H.out with | mk a1 a2 a3 a4 a5 a6 => exact a6 p hp), by have := count_part hp; omega⟩)
 have HVL := hide ho.vl
 have HNP : Hid (numP l = numP l) := hide rfl
 have HN6 : Hid (numP l = l.parts.length) := hide (by unfold numP; rw [HKL.out.1]; simp)
 have HLN := hide HSL.out.len
 have hl12 : len ≤ 12 := by
  cases l with
  | mk k0' n0' f0' A0' len0' cap0' ps0' =>
   have h1 : ps0'.length = len := HLN.out
   have h2 := HVL.out.len.1
   omega
 have HOFF := hide (Offsets_ok H.out hc wd b ho hk)
 rw [HLV.out, HLN.out] at HOFF
 have HAT6 : Hid (∀ j : Nat, j < len → ((offsTo (l.parts.map (Lay.room wd)) len).map (Value.int .i64))[j]? = some (.int .i64 (atL wd l j))) := hide (fun j hj => by
  unfold atL offsTo
  rw [if_neg (by rw [HKL.out.1]; decide), if_pos HKL.out.1, List.getElem?_map, List.getElem?_map, List.getElem?_range hj]
  rfl)
 clear hk
 have Q22 := hide (Q.refl w2)
 obtain ⟨k0, k1, k2, k3, t0, t1⟩ := KA.out w2 Q22.out
 go_enter Try.func109, Try.ntmps109
 go_upto_region 1 with fail
 rw [HW2.out]
 have HO3 := hide (HOFF.out w2 HWQ.out)
 go_wp2_with fail
 refine HO3.out.mono ?_
 rintro e w3 ⟨vo, rfl, hoo, hq3⟩
 clear k0 k1 k2 k3 t0 t1
 have Q23 := hide hq3
 have KA3 : Hid (∀ X, Q w3 X → X.cell? ⟨W.heap.size, 0, none⟩ = some (.int .i64 6) ∧ X.cell? ⟨W.heap.size, 1, none⟩ = some (.int .i64 n) ∧ X.cell? ⟨W.heap.size, 2, none⟩ = some (.bool f) ∧ X.cell? ⟨W.heap.size, 3, none⟩ = some (.slice A len cap) ∧ X.cell? ⟨W.heap.size + 1, 0, none⟩ = some (.int .i64 wd) ∧ X.cell? ⟨W.heap.size + 1, 1, none⟩ = some (.bool b)) := hide fun X hX => KA.out X (Q23.out.trans hX)
 have HOO := hide hoo
 have hs3 := hq3.size
 clear hoo hq3
 go_wp2_with fail
 go_loopw [5, 9] (fun v5 vi wr => ∃ j : Nat, j ≤ len ∧ vi = .int .i64 j ∧ wr.ownsRow w3.heap.size 107 5 v5 j (rowsP wd l j) ∧ Q w3 wr) (fun _ vi _ => len - (intOf vi).toNat)
 case atStart => exact ⟨0, by omega, by go_num, World.ownsRow_nil _ _ _ _, Q.refl _⟩
 case round =>
  obtain ⟨j, hj, rfl, hown, hq⟩ := hrel
  have HQ := hide hq
  have HOW := hide hown
  have k3 := (KA3.out wr hq).2.2.2.1
  by_cases hlt9 : j < len
  ·have hd1 : decide ((j : Int) < (len : Int)) = true := by simp; omega
   have hd0 : decide (j < len) = true := by simp; omega
   have hlti : (j : Int) < (len : Int) := by omega
   obtain ⟨go, co, rfl, -, hgo, -, -, hgc, -⟩ := own_at HOO.out (by omega)
   have hac := hgc j _ (HAT6.out j hlt9)
   obtain ⟨g, o, m', x', y', B, l', d', qs, e, hb, hx, z0, z1, z2, z3⟩ := lay_at (HSL.out.up (HWQ.out.trans Q23.out)) hlt9
   cases e
   obtain ⟨p, hpe⟩ : ∃ p, Lay.mk m' x' y' B l' d' qs = p := ⟨_, rfl⟩
   have hpe4 : encL p = [.int .i64 m', .int .i64 x', .bool y', .slice B l' d'] := by rw [← hpe]; rfl
   rw [hpe] at hx
   have hsub := sub_get (l := l) (j := j) (by rw [HKL.out.1]; decide) hx
   have hrow : rowsP wd l (j + 1) = rowsP wd l j ++ [.int .i64 (atL wd l j), .int .i64 m', .int .i64 x', .bool y', .slice B l' d'] := by
    rw [rowsP_succ]
    unfold plcC
    rw [hsub, hpe4]
   obtain ⟨at9, hat9⟩ : ∃ a, atL wd l j = a := ⟨_, rfl⟩
   rw [hat9] at hac hrow
   have HAC := hide hac
   have HROWJ := hide hrow
   have HLT := hide hlt9
   have hb2 := hb
   obtain ⟨v5, hv5⟩ : ∃ v5, u5 = v5 := ⟨_, rfl⟩
   rw [hv5] at HOW ⊢
   clear hown hq hat9 hv5 hac hrow hgc hx hpe hpe4 hsub hb
   go_upto_region 15 with fail
   clear k3
   refine Ri.madeY (C := CY 12 13 w3 107 5 v5 j (j + 1) (rowsP wd l j) (rowsP wd l j ++ ((#[.int .i64 at9, .int .i64 m', .int .i64 x', .bool y', .slice B l' d'] : Array Value)).toList)) [12, 13] [0, 1, 2, 3, 4, 5, 6, 7, 8, 9, 10, 12, 13] [] (fun S0 S2 f f2 w1 w2 hk X hq => X.q hk hq) (Ri.phi [Ri.isV (v5), Ri.isV (.slice (some ⟨go, 0, none⟩) len co), Ri.isV (.int .i64 ((j : Nat) : Int)), Ri.isV (.pointer (some ⟨go, 0 + j * 1, none⟩)), Ri.isV (.int .i64 at9), Ri.isV (.pointer (some ⟨W.heap.size, 3, none⟩)), Ri.isV (.slice (some ⟨g, o, none⟩) len cap), Ri.isV (.int .i64 ((j : Nat) : Int)), Ri.isV (.pointer (some ⟨g, o + j * 4, none⟩)), Ri.isV (.agg #[.int .i64 m', .int .i64 x', .bool y', .slice B l' d']), Ri.isV (.agg #[.int .i64 at9, .int .i64 m', .int .i64 x', .bool y', .slice B l' d']), (fun v W => ∃ b, v = .slice (some ⟨b, 0, none⟩) 1 1 ∧ b < W.heap.size ∧ ∀ (j : Nat) u, ((#[.int .i64 at9, .int .i64 m', .int .i64 x', .bool y', .slice B l' d'] : Array Value)).toList[j]? = some u → W.cell? ⟨b, j, none⟩ = some u), (fun _ _ => True), (fun _ _ => True)]) (by kernel_rfl) (by kernel_rfl) (by kernel_rfl) (⟨HQ.out.trans (Q.refl _).drew, by rw [if_neg (by decide)]; exact own_q HOW.out (Q.refl _).drew, fun h => absurd h (by decide)⟩) (Ri.phi_mono ?_) (Ri.phi_fix ?_) ?_ ?_
   ·repeat' first | exact trivial | exact fun _ _ _ h _ => h | exact (fun _ w3 w4 ⟨b, e, hb, hc⟩ hq => ⟨b, e, Nat.lt_of_lt_of_le hb hq.size, fun j u hu => (hq.facts.1 _ _ hb).trans (hc j u hu)⟩) | refine ⟨?_, ?_⟩
   ·repeat' first | exact trivial | exact fun _ _ _ _ h => h | exact fun h => absurd h (by decide) | refine ⟨?_, ?_⟩
   ·refine Ri.All.cons ?_ (.cons ?_ (.cons ?_ (.cons ?_ (.cons ?_ (.cons ?_ (.cons ?_ (.cons ?_ (.cons ?_ (.cons ?_ (.cons ?_ (.cons ?_ (.cons ?_ (.cons ?_ (Ri.All.nil))))))))))))))
    ·refine Ri.StepY.q (h := fun S9 f9 W9 hS hD hq hf A9 hA hB hO => ?_)
     have e1 := (hA 5 13).trans ((hO 13).2.trans (show _ = v5 by simp [Ri.old]))
     exact Ri.wp_value _ (Ri.run_mv rfl e1) rfl
    ·refine Ri.StepY.q (h := fun S9 f9 W9 hS hD hq hf A9 hA hB hO => ?_)
     have e1 := (hB 7).trans (show _ = .slice (some ⟨go, 0, none⟩) len co by simp [Act.eval])
     exact Ri.wp_value _ (Ri.run_mv rfl e1) rfl
    ·refine Ri.StepY.q (h := fun S9 f9 W9 hS hD hq hf A9 hA hB hO => ?_)
     have e1 := (hB 9).trans (show _ = .int .i64 (j : Nat) by simp [Act.eval])
     exact Ri.wp_value _ (Ri.run_mv rfl e1) rfl
    ·refine Ri.StepY.q (h := fun S9 f9 W9 hS hD hq hf A9 hA hB hO => ?_)
     have e1 := (hA 63 1).trans (hf 1)
     have e2 := (hA 64 2).trans (hf 2)
     exact Ri.wp_value _ (Ri.run_idx rfl e1 e2 Try.underlying32 (sz := 1) (by kernel_rfl) HLT.out) rfl
    ·refine Ri.StepY.q (h := fun S9 f9 W9 hS hD hq hf A9 hA hB hO => ?_)
     have e1 := (hA 65 3).trans (hf 3)
     exact Ri.wp_value _ (Ri.run_ld1 rfl e1 Try.underlying3 rfl ((hq.1.facts.1 _ _ hgo).trans (by rw [Nat.zero_add, Nat.mul_one]; exact HAC.out))) rfl
    ·refine Ri.StepY.q (h := fun S9 f9 W9 hS hD hq hf A9 hA hB hO => ?_)
     have e1 := (hB 2).trans (show _ = .pointer (some ⟨W.heap.size, 0, none⟩) by simp [Act.eval])
     exact Ri.wp_value _ (Ri.run_fld (f := _) rfl e1 Try.underlying24 rfl (sz := 0) (by kernel_rfl)) rfl
    ·refine Ri.StepY.q (h := fun S9 f9 W9 hS hD hq hf A9 hA hB hO => ?_)
     have e1 := (hA 67 5).trans (hf 5)
     exact Ri.wp_value _ (Ri.run_ld1 rfl e1 Try.underlying22 rfl ((KA3.out W9 hq.1).2.2.2.1)) rfl
    ·refine Ri.StepY.q (h := fun S9 f9 W9 hS hD hq hf A9 hA hB hO => ?_)
     have e1 := (hB 9).trans (show _ = .int .i64 (j : Nat) by simp [Act.eval])
     exact Ri.wp_value _ (Ri.run_mv rfl e1) rfl
    ·refine Ri.StepY.q (h := fun S9 f9 W9 hS hD hq hf A9 hA hB hO => ?_)
     have e1 := (hA 68 6).trans (hf 6)
     have e2 := (hA 69 7).trans (hf 7)
     exact Ri.wp_value _ (Ri.run_idx rfl e1 e2 Try.underlying22 (sz := 4) (by kernel_rfl) HLT.out) rfl
    ·refine Ri.StepY.q (h := fun S9 f9 W9 hS hD hq hf A9 hA hB hO => ?_)
     have e1 := (hA 70 8).trans (hf 8)
     exact Ri.wp_value _ (Ri.run_ldagg (cs := [.int .i64 m', .int .i64 x', .bool y', .slice B l' d']) rfl e1 (c4G ((hq.1.facts.1 _ _ hb2).trans z0) ((hq.1.facts.1 _ _ hb2).trans z1) ((hq.1.facts.1 _ _ hb2).trans z2) ((hq.1.facts.1 _ _ hb2).trans z3)) Try.underlying24 rfl (by kernel_rfl)) rfl
    ·refine Ri.StepY.q (h := fun S9 f9 W9 hS hD hq hf A9 hA hB hO => ?_)
     have e1 := (hA 66 4).trans (hf 4)
     have e2 := (hA 71 9).trans (hf 9)
     exact Ri.wp_struct rfl [(0, .int .i64 at9), (1, .agg #[.int .i64 m', .int .i64 x', .bool y', .slice B l' d'])] (by simp [e1, e2]) (by kernel_rfl) rfl
    ·refine Ri.StepY.q (h := fun S9 f9 W9 hS hD hq hf A9 hA hB hO => ?_)
     have e1 := (hA 72 10).trans (hf 10)
     obtain ⟨ti, hi9, hz9, hsz9, hby9⟩ := info_parts (show (Try.prog.info? 107).map (fun i => (i.zero, i.size, i.bytes)) = some (some (.agg #[.int .i64 0, .int .i64 0, .int .i64 0, .bool false, .slice none 0 0]), 5, 56) by kernel_rfl)
     refine wp_buildSlice 135 107 1 _ rfl (#[.int .i64 at9, .int .i64 m', .int .i64 x', .bool y', .slice B l' d'] : Array Value) ti _ Try.underlying135 hi9 hz9 (by rw [hsz9]; decide) (by rw [hsz9]; decide) ?_ ⟨_, rfl, (Q.refl W9).alloc _, W9.heap.size, rfl, by simp, fun j u hu => cell_blkJ (heap_alloc_new W9 _) (by simpa using hu)⟩
     rw [hsz9]
     simp only [List.map_toArray, List.map_cons, List.map_nil, e1]
     kernel_rfl
    ·refine Ri.StepY.c (h := fun S9 f9 W9 hS hD hq hf A9 hA hB hO => ?_)
     obtain ⟨b9, hb9, hl9, hc9⟩ : ∃ b, f9 11 = .slice (some ⟨b, 0, none⟩) 1 1 ∧ b < W9.heap.size ∧ ∀ (j : Nat) u, ((#[.int .i64 at9, .int .i64 m', .int .i64 x', .bool y', .slice B l' d'] : Array Value)).toList[j]? = some u → W9.cell? ⟨b, j, none⟩ = some u := hf 11
     have e1 := (hA 62 0).trans (show f9 0 = v5 from hf 0)
     have e2 := (hA 73 11).trans hb9
     have hown9 := hq.2.1
     rw [hS, if_neg (by decide)] at hown9
     refine Ri.wp_appY El_plc _ _ rfl e1 e2 hown9 (news := ((#[.int .i64 at9, .int .i64 m', .int .i64 x', .bool y', .slice B l' d'] : Array Value)).toList) rfl hc9 (by simp [Value.oneCell']) (by omega) hq.1.size (fun v9 w9 h2 h3 => ⟨hq.app hS (hO 13).1 (by decide) h2 h3, trivial⟩)
    ·refine Ri.StepY.c (h := fun S9 f9 W9 hS hD hq hf A9 hA hB hO => ?_)
     have e1 := hA 74 12
     exact Ri.wp_asgY rfl e1 ⟨hq.asg (hD 12) (by decide), trivial⟩
   ·intro S9 f9 w8 hS hq8 hf
    obtain ⟨hown8, hq28⟩ := hq8.end_ (hS 12 (by simp)) (hS 13 (by simp))
    simp only [Ri.acts, Act.put, List.setIfInBounds_toArray, List.set_cons_zero, List.set_cons_succ, Nat.zero_add, Nat.reduceAdd]
    obtain ⟨v8, hv8⟩ : ∃ v8, f9 13 = v8 := ⟨_, rfl⟩
    rw [hv8] at hown8 ⊢
    have HOW8 := hide hown8
    have HQ8 := hide hq28
    clear hown8 hq28 hq8 hf hS hv8
    go_wp2_with fail
    go_roundw
    case rel => exact ⟨j + 1, by omega, by go_num, by rw [HROWJ.out]; exact HOW8.out, HQ8.out⟩
    case measure => simp [intOf] <;> omega
  ·have hd1 : decide ((j : Int) < (len : Int)) = false := by simp; omega
   have hd0 : decide (j < len) = false := by simp; omega
   obtain rfl : j = len := by omega
   clear hown hq
   go_wp2_with fail
   go_ret
   exact ⟨_, rfl, by rw [HN6.out, HLN.out]; exact own_lower HOW.out (by omega), HQ2.out.trans (Q23.out.trans HQ.out)⟩
theorem places_any {w : World} {l : Lay} (h : LayR w l) (hc : l.count ≤ 1048576) (wd : Int) (b : Bool) (ho : Okw wd l) : ∀ W, Q w W → Calls Try.prog 109 #[l.v, tgW wd b] W (fun e w' => ∃ v, e = .returned v ∧ w'.ownsRow W.heap.size 107 5 v (numP l) (rowsP wd l (numP l)) ∧ Q W w') := by
 have hk : 0 ≤ l.k ∧ l.k ≤ 9 := by
  have h1 := ho.vl
  cases l with
  | mk k n f A len cap ps =>
   have h2 := h1.kind
   exact ⟨h2.1, h2.2.1⟩
 by_cases h4 : l.k = 4
 ·exact placesR4 h hc wd b ho h4
 by_cases h5 : l.k = 5
 ·exact placesR5 h hc wd b ho h5
 by_cases h6 : l.k = 6
 ·exact placesR6 h hc wd b ho h6
 by_cases h8 : l.k = 8
 ·exact placesR8 h hc wd b ho h8
 ·exact placesR0 h hc wd b ho (by omega)
def stE (l : Lay) (n : Int) : Int := if l.k = 4 ∨ l.k = 5 ∨ l.k = 6 ∨ l.k = 8 then (if n < 0 ∨ (numP l : Int) ≤ n then 4 else 0) else 6
def stA (wd : Int) (l : Lay) (n : Int) : Int := if stE l n = 0 then atL wd l n.toNat else 0
def stL (l : Lay) (n : Int) : Lay := if stE l n = 0 then subL l n.toNat else noL
def findL (wd : Int) : Lay → Int → List Int → Int × Lay × Int
 | l, at_, [] => (at_, l, 0)
 | l, at_, n :: r => if stE l n = 0 then findL wd (stL l n) (at_ + stA wd l n) r else (0, noL, stE l n)
theorem stE_ok {l : Lay} {n : Int} (h : stE l n = 0) : (l.k = 4 ∨ l.k = 5 ∨ l.k = 6 ∨ l.k = 8) ∧ 0 ≤ n ∧ n < numP l := by
 unfold stE at h
 split at h
 ·rename_i h1
  split at h
  ·cases h
  ·exact ⟨h1, by omega, by omega⟩
 ·cases h
theorem numP_one {wd : Int} {l : Lay} (ho : Okw wd l) (hk : l.k = 4 ∨ l.k = 5) : l.parts.length = 1 := by
 have h1 := ho.vl
 cases l with
 | mk k n f A len cap ps =>
  have h2 := h1.kind.2.2.1
  unfold numL at h2
  have hk' : k = 4 ∨ k = 5 := hk
  rw [if_pos hk', decide_eq_true_eq] at h2
  exact h2
theorem sub_mem {wd : Int} {l : Lay} (ho : Okw wd l) {n : Int} (h : stE l n = 0) : ∃ j : Nat, n = j ∧ subL l j ∈ l.parts ∧ (l.k ≠ 5 → l.parts[j]? = some (subL l j)) ∧ (l.k = 5 → l.parts[0]? = some (subL l j) ∧ (j : Int) < l.n) := by
 obtain ⟨hk, h0, h1⟩ := stE_ok h
 refine ⟨n.toNat, by omega, ?_⟩
 obtain ⟨j, rfl⟩ : ∃ j : Nat, n = j := ⟨n.toNat, by omega⟩
 rw [Int.toNat_natCast]
 have hj : j < numP l := by omega
 by_cases h5 : l.k = 5
 ·have hl := numP_one ho (.inr h5)
  obtain ⟨p, hp⟩ : ∃ p, l.parts = [p] := List.length_eq_one_iff.1 hl
  have hs : subL l j = p := sub_arr h5 (by rw [hp]; rfl)
  rw [hs, hp]
  refine ⟨by simp, fun h => absurd h5 h, fun _ => ⟨rfl, ?_⟩⟩
  unfold numP at hj
  rw [if_neg (by omega), if_pos h5] at hj
  omega
 ·have hlt : j < l.parts.length := by
   unfold numP at hj
   by_cases h4 : l.k = 4
   ·rw [if_pos h4] at hj
    have := numP_one ho (.inl h4)
    omega
   ·rw [if_neg h4, if_neg h5, if_pos (by omega)] at hj
    exact hj
  have hg := List.getElem?_eq_getElem hlt
  have hs := sub_get h5 hg
  rw [hs]
  exact ⟨List.getElem_mem hlt, fun _ => hg, fun h => absurd h h5⟩
theorem lay_part {w : World} {l p : Lay} (h : LayR w l) (hp : p ∈ l.parts) : LayR w p := by
 cases h with
 | mk a1 a2 a3 a4 a5 a6 => exact a6 p hp
theorem step_okw {w : World} {l : Lay} {wd : Int} (h : LayR w l) (ho : Okw wd l) {n : Int} (hs : stE l n = 0) : Okw wd (stL l n) ∧ LayR w (stL l n) ∧ (stL l n).count ≤ l.count := by
 obtain ⟨j, rfl, hm, h1, h2⟩ := sub_mem ho hs
 have e : stL l (j : Int) = subL l j := by unfold stL; rw [if_pos hs, Int.toNat_natCast]
 rw [e]
 have hk := (stE_ok hs).1
 refine ⟨ho.part h hm (fun h5 => by have := (h2 h5).2; omega) (by omega), lay_part h hm, by have := count_part hm; omega⟩
theorem stA_bd {w : World} {l : Lay} {wd : Int} (h : LayR w l) (ho : Okw wd l) (n : Int) : 0 ≤ stA wd l n ∧ stA wd l n ≤ 4096 := by
 unfold stA
 by_cases hs : stE l n = 0
 ·rw [if_pos hs]
  obtain ⟨j, rfl, hm, h1, h2⟩ := sub_mem ho hs
  rw [Int.toNat_natCast]
  unfold atL
  by_cases h5 : l.k = 5
  ·rw [if_pos h5]
   have hsz := szL_bd (lay_part h hm) wd
   have hop : Okw wd (subL l j) := ho.part h hm (fun h5 => by have := (h2 h5).2; omega) (by omega)
   obtain ⟨hp, hj⟩ := h2 h5
   refine ⟨Int.mul_nonneg (by omega) hsz.1, ?_⟩
   have hl := numP_one ho (.inr h5)
   have hsm := ho.small
   cases l with
   | mk k n f A len cap ps =>
    have h5' : k = 5 := h5
    subst h5'
    have hj' : (j : Int) < n := hj
    rw [room_mk] at hsm
    unfold roomR at hsm
    rw [if_neg (by decide), if_neg (by decide), if_neg (by decide), if_neg (by decide), if_pos rfl] at hsm
    have hp' : ps[0]? = some (subL (.mk 5 n f A len cap ps) j) := hp
    have hhd : (ps.map (Lay.room wd)).headD (0, 1) = (subL (.mk 5 n f A len cap ps) j).room wd := by
     cases ps with
     | nil => simp at hp'
     | cons a r =>
      simp at hp'
      rw [← hp']
      rfl
    rw [hhd] at hsm
    dsimp only at hsm
    rw [hop.sz]
    have h0 := hsz.1
    rw [hop.sz] at h0
    have := Int.mul_le_mul_of_nonneg_right (show (j : Int) ≤ n by omega) h0
    omega
  ·rw [if_neg h5]
   by_cases h6 : l.k = 6
   ·rw [if_pos h6]
    have hsm := ho.small
    have hvl := ho.vl
    have hfr := fr_valid h ho.valid
    cases h with
    | @mk k n f A len cap ps a1 a2 a3 a4 a5 a6 =>
     have h6' : k = 6 := h6
     subst h6'
     rw [room_mk] at hsm
     unfold roomR at hsm
     rw [if_neg (by decide), if_neg (by decide), if_neg (by decide), if_neg (by decide), if_neg (by decide), if_pos rfl] at hsm
     have hr : ∀ r ∈ ps.map (Lay.room wd), isA r.2 ∧ 0 ≤ r.1 := fun r hr => by
      obtain ⟨p, hpm, rfl⟩ := List.mem_map.1 hr
      have := fr_cap (a6 p hpm) (hvl.part (l := .mk 6 n f A len cap ps) hpm) (hfr.part (l := .mk 6 n f A len cap ps) hpm) wd ho.word
      exact ⟨this.1, this.2.1⟩
     have hst := stand_mono (ps.map (Lay.room wd)) (0, 1) hr isA.one (by simp)
     have htot : (standR (ps.map (Lay.room wd))).1 ≤ 4096 := Int.le_trans (hst.2.1.up hst.2.2).1 hsm
     have hpj := stand_pre hr htot j
     have hpj1 := stand_pre hr htot (j + 1)
     have hp' : ps[j]? = some (subL (.mk 6 n f A len cap ps) j) := h1 h5
     have hrj : (ps.map (Lay.room wd))[j]? = some ((subL (.mk 6 n f A len cap ps) j).room wd) := by rw [List.getElem?_map, hp']; rfl
     show 0 ≤ upI (standR ((ps.map (Lay.room wd)).take j)).1 (((ps.map (Lay.room wd))[j]?).getD (0, 1)).2 ∧ upI (standR ((ps.map (Lay.room wd)).take j)).1 (((ps.map (Lay.room wd))[j]?).getD (0, 1)).2 ≤ 4096
     rw [hrj]
     have hs2 := stand_succ hrj
     rw [hs2] at hpj1
     unfold stepS at hpj1
     dsimp only [Option.getD_some] at hpj1 ⊢
     have hA := hr _ (List.mem_of_getElem? hrj)
     have hu := hA.1.up hpj.2.1
     omega
   ·rw [if_neg h6]; omega
 ·rw [if_neg hs]; omega
theorem findL_snoc {wd : Int} : ∀ (xs : List Int) (l m : Lay) (a c : Int) (n : Int), findL wd l a xs = (c, m, 0) → findL wd l a (xs ++ [n]) = findL wd m c [n]
 | [], l, m, a, c, n, h => by
  simp only [findL, Prod.mk.injEq] at h
  obtain ⟨rfl, rfl, -⟩ := h
  rfl
 | x :: r, l, m, a, c, n, h => by
  rw [List.cons_append]
  unfold findL at h ⊢
  split at h
  ·rename_i hs
   rw [if_pos hs]
   exact findL_snoc r _ _ _ _ n h
  ·rename_i hs
   simp only [Prod.mk.injEq] at h
   exact absurd h.2.2 hs
theorem findL_bad {wd : Int} : ∀ (xs ys : List Int) (l : Lay) (a : Int), (findL wd l a xs).2.2 ≠ 0 → findL wd l a (xs ++ ys) = findL wd l a xs
 | [], ys, l, a, h => by simp [findL] at h
 | x :: r, ys, l, a, h => by
  rw [List.cons_append]
  unfold findL at h ⊢
  split
  ·rename_i hs
   rw [if_pos hs] at h
   exact findL_bad r ys _ _ h
  ·rfl
theorem set4c {w : World} {b : Nat} {a0 a1 a2 a3 : Value} (v0 v1 v2 v3 : Value) (h0 : w.cell? ⟨b, 0, none⟩ = some a0) (h1 : w.cell? ⟨b, 1, none⟩ = some a1) (h2 : w.cell? ⟨b, 2, none⟩ = some a2) (h3 : w.cell? ⟨b, 3, none⟩ = some a3) (W : World) (hW : W = ((((w.setCell ⟨b, 0, none⟩ v0).setCell ⟨b, 1, none⟩ v1).setCell ⟨b, 2, none⟩ v2).setCell ⟨b, 3, none⟩ v3)) :
  W.cell? ⟨b, 0, none⟩ = some v0 ∧ W.cell? ⟨b, 1, none⟩ = some v1 ∧ W.cell? ⟨b, 2, none⟩ = some v2 ∧ W.cell? ⟨b, 3, none⟩ = some v3 := by
 have n : ∀ i j : Nat, i ≠ j → (⟨b, i, none⟩ : Addr) ≠ ⟨b, j, none⟩ := fun i j h e => h (by injection e)
 subst hW
 refine ⟨?_, ?_, ?_, ?_⟩
 ·rw [World.cell?_setCell_other _ _ _ _ (by simp), World.cell?_setCell_other _ _ _ _ (by simp), World.cell?_setCell_other _ _ _ _ (by simp)]
  exact World.cell?_setCell_same _ _ _ h0
 ·rw [World.cell?_setCell_other _ _ _ _ (by simp), World.cell?_setCell_other _ _ _ _ (by simp)]
  exact World.cell?_setCell_same _ _ _ ((World.cell?_setCell_other _ _ _ _ (by simp)).trans h1)
 ·rw [World.cell?_setCell_other _ _ _ _ (by simp)]
  exact World.cell?_setCell_same _ _ _ (((World.cell?_setCell_other _ _ _ _ (by simp)).trans (World.cell?_setCell_other _ _ _ _ (by simp))).trans h2)
 ·exact World.cell?_setCell_same _ _ _ ((((World.cell?_setCell_other _ _ _ _ (by simp)).trans (World.cell?_setCell_other _ _ _ _ (by simp))).trans (World.cell?_setCell_other _ _ _ _ (by simp))).trans h3)
theorem isA.pos {a : Int} (h : isA a) : 0 < a := by unfold isA at h; omega
theorem mod_tr {x a b : Int} (ha : isA a) (hb : isA b) (h : a ≤ b) (hx : x % b = 0) : x % a = 0 := by
 unfold isA at ha hb
 rcases ha with rfl | rfl | rfl | rfl <;> rcases hb with rfl | rfl | rfl | rfl <;> omega
theorem mod_add {x y a : Int} (ha : isA a) (hx : x % a = 0) (hy : y % a = 0) : (x + y) % a = 0 := by
 unfold isA at ha
 rcases ha with rfl | rfl | rfl | rfl <;> omega
theorem mod_mul {x y a : Int} (h : y % a = 0) : (x * y) % a = 0 :=
 Int.emod_eq_zero_of_dvd (Int.dvd_trans (Int.dvd_of_emod_eq_zero h) (Int.dvd_mul_left x y))
theorem up_mod (n a : Int) : upI n a % a = 0 := by unfold upI; exact Int.mul_emod_left _ _
theorem stand_al : ∀ (rs : List Rm) (s : Rm), s.2 ≤ (rs.foldl stepS s).2 ∧ ∀ r ∈ rs, r.2 ≤ (rs.foldl stepS s).2
 | [], s => ⟨Int.le_refl _, fun r h => by cases h⟩
 | a :: rs, s => by
  have ih := stand_al rs (stepS s a)
  have h1 : (stepS s a).2 = max s.2 a.2 := rfl
  rw [List.foldl_cons]
  refine ⟨by have := ih.1; omega, fun r hr => ?_⟩
  rcases List.mem_cons.1 hr with rfl | hr
  ·have := ih.1; omega
  ·exact ih.2 r hr
theorem union_al : ∀ (rs : List Rm) (s : Rm), s.2 ≤ (rs.foldl stepU s).2 ∧ ∀ r ∈ rs, r.2 ≤ (rs.foldl stepU s).2
 | [], s => ⟨Int.le_refl _, fun r h => by cases h⟩
 | a :: rs, s => by
  have ih := union_al rs (stepU s a)
  have h1 : (stepU s a).2 = max s.2 a.2 := rfl
  rw [List.foldl_cons]
  refine ⟨by have := ih.1; omega, fun r hr => ?_⟩
  rcases List.mem_cons.1 hr with rfl | hr
  ·have := ih.1; omega
  ·exact ih.2 r hr
theorem room_mul {w : World} {l : Lay} (h : LayR w l) {wd : Int} (hw : okW wd) : VL l → (l.room wd).1 % (l.room wd).2 = 0 := by
 induction h with
 | @mk k n f A len cap ps a1 a2 a3 a4 a5 a6 ih =>
  intro hv
  obtain ⟨hk0, hk9, hnum, hrest⟩ := hv.kind
  have hwh : ∀ b, whB b % (min (whB b) wd) = 0 := fun b => by
   have h1 := whB_isA b
   unfold isA at h1
   unfold okW at hw
   rcases h1 with h1 | h1 | h1 | h1 <;> rw [h1] <;> rcases hw with rfl | rfl | rfl <;> decide
  rw [room_mk]
  unfold roomR
  by_cases e1 : k = 1
  ·rw [if_pos e1]; decide
  rw [if_neg e1]
  by_cases e2 : k = 2
  ·rw [if_pos e2]; exact hwh n
  rw [if_neg e2]
  by_cases e3 : k = 3
  ·rw [if_pos e3]; exact Int.emod_self
  rw [if_neg e3]
  by_cases e4 : k = 4
  ·rw [if_pos e4]; exact up_mod _ _
  rw [if_neg e4]
  by_cases e5 : k = 5
  ·rw [if_pos e5]
   unfold numL at hnum
   rw [if_pos (.inr e5), decide_eq_true_eq, List.length_eq_one_iff] at hnum
   obtain ⟨p, rfl⟩ := hnum
   exact mod_mul (ih p (by simp) (hv.part (by simp [Lay.parts])))
  rw [if_neg e5]
  by_cases e6 : k = 6
  ·rw [if_pos e6]; exact up_mod _ _
  rw [if_neg e6]
  by_cases e7 : k = 7
  ·rw [if_pos e7]
   split
   ·decide
   ·unfold okW at hw
    rcases hw with rfl | rfl | rfl <;> decide
  rw [if_neg e7]
  by_cases e8 : k = 8
  ·rw [if_pos e8]; exact up_mod _ _
  rw [if_neg e8]
  by_cases e9 : k = 9
  ·rw [if_pos e9]
   split
   ·decide
   ·exact hwh _
  rw [if_neg e9]
  decide
theorem okw_isA {w : World} {l : Lay} (h : LayR w l) {wd : Int} (ho : Okw wd l) : isA (l.room wd).2 := (fr_cap h ho.vl (fr_valid h ho.valid) wd ho.word).1
theorem step_al {w : World} {l : Lay} {wd : Int} (h : LayR w l) (ho : Okw wd l) {n : Int} (hs : stE l n = 0) : ((stL l n).room wd).2 ≤ (l.room wd).2 ∧ stA wd l n % ((stL l n).room wd).2 = 0 := by
 obtain ⟨j, rfl, hm, h1, h2⟩ := sub_mem ho hs
 have e : stL l (j : Int) = subL l j := by unfold stL; rw [if_pos hs, Int.toNat_natCast]
 have ea : stA wd l (j : Int) = atL wd l j := by unfold stA; rw [if_pos hs, Int.toNat_natCast]
 rw [e, ea]
 have hk := (stE_ok hs).1
 have hlp := lay_part h hm
 have hop : Okw wd (subL l j) := ho.part h hm (fun h5 => by have := (h2 h5).2; omega) (by omega)
 obtain ⟨p, hp⟩ : ∃ p, subL l j = p := ⟨_, rfl⟩
 rw [hp] at hm h1 h2 hlp hop ⊢
 cases l with
 | mk k n f A len cap ps =>
  have hm' : p ∈ ps := hm
  have hr := List.mem_map_of_mem (f := Lay.room wd) hm'
  rw [room_mk]
  have hk' : k = 4 ∨ k = 5 ∨ k = 6 ∨ k = 8 := hk
  have h12 : k = 4 ∨ k = 5 → (ps.map (Lay.room wd)).headD (0, 1) = p.room wd := fun h45 => by
   have hl := numP_one ho (show (Lay.mk k n f A len cap ps).k = 4 ∨ (Lay.mk k n f A len cap ps).k = 5 from h45)
   obtain ⟨q, hq⟩ : ∃ q, ps = [q] := List.length_eq_one_iff.1 hl
   subst hq
   rw [List.mem_singleton] at hm'
   subst hm'
   rfl
  unfold roomR atL
  rw [hp]
  rcases hk' with rfl | rfl | rfl | rfl
  ·rw [if_neg (by decide), if_neg (by decide), if_neg (by decide), if_pos rfl, if_neg (show ¬ (Lay.mk 4 n f A len cap ps).k = 5 from (by decide : ¬ (4 : Int) = 5)), if_neg (show ¬ (Lay.mk 4 n f A len cap ps).k = 6 from (by decide : ¬ (4 : Int) = 6)), h12 (.inl rfl)]
   exact ⟨Int.le_refl _, Int.zero_emod _⟩
  ·rw [if_neg (by decide), if_neg (by decide), if_neg (by decide), if_neg (by decide), if_pos rfl, if_pos (show (Lay.mk 5 n f A len cap ps).k = 5 from rfl), h12 (.inr rfl), hop.sz]
   exact ⟨Int.le_refl _, mod_mul (room_mul hlp ho.word hop.vl)⟩
  ·rw [if_neg (by decide), if_neg (by decide), if_neg (by decide), if_neg (by decide), if_neg (by decide), if_pos rfl, if_neg (show ¬ (Lay.mk 6 n f A len cap ps).k = 5 from (by decide : ¬ (6 : Int) = 5)), if_pos (show (Lay.mk 6 n f A len cap ps).k = 6 from rfl)]
   refine ⟨(stand_al (ps.map (Lay.room wd)) (0, 1)).2 _ hr, ?_⟩
   have hg : ps[j]? = some p := h1 (show ¬ (6 : Int) = 5 by decide)
   have : (((Lay.mk 6 n f A len cap ps).parts.map (Lay.room wd))[j]?).getD (0, 1) = p.room wd := by
    show ((ps.map (Lay.room wd))[j]?).getD (0, 1) = p.room wd
    rw [List.getElem?_map, hg]
    rfl
   rw [this]
   exact up_mod _ _
  ·rw [if_neg (by decide), if_neg (by decide), if_neg (by decide), if_neg (by decide), if_neg (by decide), if_neg (by decide), if_neg (by decide), if_pos rfl, if_neg (show ¬ (Lay.mk 8 n f A len cap ps).k = 5 from (by decide : ¬ (8 : Int) = 5)), if_neg (show ¬ (Lay.mk 8 n f A len cap ps).k = 6 from (by decide : ¬ (8 : Int) = 6))]
   exact ⟨(union_al (ps.map (Lay.room wd)) (0, 1)).2 _ hr, Int.zero_emod _⟩
theorem find_al {w : World} {wd : Int} : ∀ (xs : List Int) (l : Lay) (a : Int), LayR w l → Okw wd l → 0 ≤ a → a % (l.room wd).2 = 0 → ∀ c m, findL wd l a xs = (c, m, 0) → LayR w m ∧ Okw wd m ∧ m.count ≤ l.count ∧ a ≤ c ∧ c ≤ a + 4096 * xs.length ∧ c % (m.room wd).2 = 0
 | [], l, a, h, ho, h0, ha, c, m, e => by
  simp only [findL, Prod.mk.injEq] at e
  obtain ⟨rfl, rfl, -⟩ := e
  exact ⟨h, ho, Nat.le_refl _, Int.le_refl _, by simp, ha⟩
 | x :: r, l, a, h, ho, h0, ha, c, m, e => by
  unfold findL at e
  split at e
  ·rename_i hs
   obtain ⟨x1, x2, x3⟩ := step_okw h ho hs
   obtain ⟨y1, y2⟩ := step_al h ho hs
   obtain ⟨z1, z2⟩ := stA_bd h ho x
   obtain ⟨i1, i2, i3, i4, i5, i6⟩ := find_al r (stL l x) (a + stA wd l x) x2 x1 (by omega) (mod_add (okw_isA x2 x1) (mod_tr (okw_isA x2 x1) (okw_isA h ho) y1 ha) y2) c m e
   refine ⟨i1, i2, by omega, by omega, ?_, i6⟩
   rw [List.length_cons]
   omega
  ·rename_i hs
   simp only [Prod.mk.injEq] at e
   exact absurd e.2.2 hs
theorem q_set4 {a w : World} {b : Nat} (v0 v1 v2 v3 : Value) (h : Q a w) (hb : a.heap.size ≤ b) : Q a ((((w.setCell ⟨b, 0, none⟩ v0).setCell ⟨b, 1, none⟩ v1).setCell ⟨b, 2, none⟩ v2).setCell ⟨b, 3, none⟩ v3) :=
 (((h.set (p := ⟨b, 0, none⟩) hb v0).set (p := ⟨b, 1, none⟩) hb v1).set (p := ⟨b, 2, none⟩) hb v2).set (p := ⟨b, 3, none⟩) hb v3
namespace Ri
end Ri
def Lay.ske : Lay → Lay
 | .mk k n f _ _ _ ps => .mk k n f none 0 0 (ps.attach.map fun p => Lay.ske p.1)
termination_by c => SizeOf.sizeOf c
decreasing_by
 have := List.sizeOf_lt_of_mem p.2
 simp
 omega
theorem ske_mk (k n : Int) (f : Bool) (A : Option Addr) (len cap : Nat) (ps : List Lay) : (Lay.mk k n f A len cap ps).ske = .mk k n f none 0 0 (ps.map Lay.ske) := by
 rw [Lay.ske, attach_map']
theorem map_eq_of {α β : Type} {f g : α → β} : ∀ {l : List α}, (∀ x ∈ l, f x = g x) → l.map f = l.map g
 | [], _ => rfl
 | a :: r, h => by rw [List.map_cons, List.map_cons, h a (List.mem_cons_self ..), map_eq_of fun x hx => h x (List.mem_cons_of_mem _ hx)]
theorem run_append_blk {P : Program} {w : World} (base : Nat) (t ty e : TypeId) (i : TypeInfo) (z : Value) (size bytes : Nat) (ht : P.underlying t = some (.slice e)) (hi : P.info? e = some i) (hz : i.zero = some z)
  (hsize : i.size = size) (hby : i.bytes = bytes) (hzs : z.cells.size = size) (hsz : 0 < size)
  (v : Value) (n : Nat) (xs : List Value) (hown : w.ownsRow base e size v n xs)
  (a : Addr) (m c : Nat) (news : List Value) (hl : news.length = m * size) (hnews : ∀ j u, news[j]? = some u → w.cell? (a.add j) = some u) (h1 : ∀ u ∈ news, u.oneCell' = true)
  (hm : 0 < m) (h63 : n + m ≤ maxLen) (hbytes : (n + m) * bytes ≤ 140737488355328) (hbase : base ≤ w.heap.size) :
  ∃ v' w', (Builtin.append_ #[t, t] ty #[v, .slice (some a) m c]).run P w = .ok v' w' ∧ w'.ownsRow base e size v' (n + m) (xs ++ news) ∧ w.grownBy w' v.ownBlock ∧ (v'.ownBlock = v.ownBlock ∨ v'.ownBlock = some w.heap.size) := by
 obtain ⟨v', w', hr, h2, h3, h4⟩ := run_append_own (P := P) w base t ty e i z size bytes ht hi hz hsize hby hzs hsz v n xs hown a m c news hl hnews h1 h63 hbytes hbase
 refine ⟨v', w', hr, h2, h3, ?_⟩
 subst hsize
 subst hby
 have hsmall : n + m ≤ 9223372036854775807 := by simp only [maxLen] at h63; omega
 rcases hown.2 with ⟨rfl, rfl⟩ | ⟨g, cap, cur, rfl, hbg, hg, hnc, hcm, hcs, htake⟩
 ·have hr2 := run_append_nil (P := P) w t ty e i z ht hi hz a m c news hl hnews hm (by omega) (by have hb := hbytes; simp only [Nat.zero_add] at hb; omega)
  rw [hr] at hr2
  injection hr2 with e1 _
  subst e1
  exact .inr rfl
 ·by_cases hroom : n + m ≤ cap
  ·have hfit : n * i.size + news.length ≤ cur.size := by rw [hl, hcs, ← Nat.add_mul]; exact Nat.mul_le_mul_right _ hroom
   have hr2 := run_append_room (P := P) w t ty e i ht hi g n cap cur hg a m c news hl hnews h1 hroom hfit
   rw [hr] at hr2
   injection hr2 with e1 _
   subst e1
   exact .inl rfl
  ·have holds : ∀ j u, xs[j]? = some u → w.cell? ((⟨g, 0, none⟩ : Addr).add j) = some u := hown.cells (g := g) rfl
   have hr2 := run_append_grow (P := P) w t ty e i z ht hi hz ⟨g, 0, none⟩ n cap xs hown.1 holds a m c news hl hnews (by omega) (by omega) (growslice_fits (by omega) hbytes)
   rw [hr] at hr2
   injection hr2 with e1 _
   subst e1
   exact .inr rfl
inductive LayB (P : Nat → Prop) : Lay → Prop
 | mk {k n : Int} {f : Bool} {A : Option Addr} {len cap : Nat} {parts : List Lay} : (∀ a, A = some a → P a.block) → (∀ p ∈ parts, LayB P p) → LayB P (.mk k n f A len cap parts)
theorem LayB.mono {P P2 : Nat → Prop} {l : Lay} (h : LayB P l) (hp : ∀ b, P b → P2 b) : LayB P2 l := by
 induction h with
 | mk h1 _ ih => exact .mk (fun a ha => hp _ (h1 a ha)) ih
theorem LayR.frame {w w' : World} {row : Option Nat} {l : Lay} (h : LayR w l) (hg : w.grownBy w' row) : LayB (fun b => some b ≠ row) l → LayR w' l := by
 induction h with
 | @mk k n f A len cap ps h1 h2 h3 h4 h5 _ ih =>
  intro hb
  cases hb with
  | mk b1 b2 =>
   refine .mk h1 h2 ⟨?_, h3.len, h3.cap, h3.most⟩ h4 h5 (fun p hp => ih p hp (b2 p hp))
   rcases h3.rd with h | ⟨b, o, e, hlt, hc⟩
   ·exact .inl h
   ·have hne := b1 _ e
    exact .inr ⟨b, o, e, Nat.lt_of_lt_of_le hlt hg.size, fun j u hu => hg.cell (hc j u hu) hne⟩
theorem blk_q {w w' : World} {g : Nat} {o : Obj} (h : w.heap[g]? = some o) (hq : Q w w') : w'.heap[g]? = some o := (hq.below.block g (Array.getElem?_eq_some_iff.1 h).1).trans h
theorem enc_v (l : Lay) : ∃ k n f A len cap, l.v = .agg #[.int .i64 k, .int .i64 n, .bool f, .slice A len cap] ∧ encL l = [.int .i64 k, .int .i64 n, .bool f, .slice A len cap] := by cases l; exact ⟨_, _, _, _, _, _, rfl, rfl⟩
theorem q_setRow {w0 w : World} {g : Nat} {cs : Array Value} (h : Q w0 w) (hg : w0.heap.size ≤ g) : Q w0 (w.setRow g cs) := q_grown h (grown_setRow w g cs) (fun k e => by injection e with e; omega)
def CW (k : Nat) (W w2 : World) (g : Nat) (ty : TypeId) (xs ys : Array Value) (S : Nat → Bool) (f : Nat → Value) (X : World) : Prop :=
 Q W X ∧ w2.heap.size ≤ X.heap.size ∧ (∀ i, i < w2.heap.size → i ≠ g → X.heap[i]? = w2.heap[i]?) ∧ X.heap[g]? = some (.cells (if S k = true then ys else xs) ty (0, 0))
theorem CW.q {k : Nat} {W w2 : World} {g : Nat} {ty : TypeId} {xs ys : Array Value} {S S2 : Nat → Bool} {f f2 : Nat → Value} {w1 X : World} (hk : ∀ i, Ri.isIn [k] i = true → S2 i = S i ∧ f2 i = f i) (h : CW k W w2 g ty xs ys S f w1) (hq : Q w1 X) : CW k W w2 g ty xs ys S2 f2 X := by
 obtain ⟨x1, x2⟩ := hk k (by simp [Ri.isIn])
 obtain ⟨h1, h2, h3, h4⟩ := h
 refine ⟨h1.trans hq, Nat.le_trans h2 hq.size, fun i hi hne => (hq.below.block i (by omega)).trans (h3 i hi hne), ?_⟩
 rw [x1]
 exact (hq.below.block g (Array.getElem?_eq_some_iff.1 h4).1).trans h4
theorem CW.store {k : Nat} {W w2 : World} {g : Nat} {ty : TypeId} {xs ys : Array Value} {S : Nat → Bool} {f : Nat → Value} {X : World} (h : CW k W w2 g ty xs ys S f X) (hg : W.heap.size ≤ g) (v : Value) : CW k W w2 g ty xs ys (Ri.upd S k true) (Ri.upd f k v) (X.setRow g ys) := by
 obtain ⟨h1, h2, h3, h4⟩ := h
 refine ⟨q_setRow h1 hg, by have := (grown_setRow X g ys).size; omega, fun i hi hne => (setRow_other X g i _ hne).trans (h3 i hi hne), ?_⟩
 rw [Ri.upd_at, if_pos rfl]
 exact setRow_heap X g _ _ _ _ h4
def CN (k k2 : Nat) (w0 : World) (ty : TypeId) (xs ys : Array Value) (S : Nat → Bool) (f : Nat → Value) (W : World) : Prop :=
 Q w0 W ∧ (S k = true → ∃ q, f k = .pointer (some ⟨q, 0, none⟩) ∧ w0.heap.size ≤ q ∧ W.heap[q]? = some (.cells (if S k2 = true then ys else xs) ty (0, 0)))
theorem CN.q {k k2 : Nat} {w0 : World} {ty : TypeId} {xs ys : Array Value} {S S2 : Nat → Bool} {f f2 : Nat → Value} {w1 w2 : World} (hk : ∀ i, Ri.isIn [k, k2] i = true → S2 i = S i ∧ f2 i = f i) (h : CN k k2 w0 ty xs ys S f w1) (hq : Q w1 w2) : CN k k2 w0 ty xs ys S2 f2 w2 := by
 obtain ⟨x1, x2⟩ := hk k (by simp [Ri.isIn])
 obtain ⟨y1, y2⟩ := hk k2 (by simp [Ri.isIn])
 refine ⟨h.1.trans hq, fun hS => ?_⟩
 rw [x1] at hS
 obtain ⟨q, e, hl, hb⟩ := h.2 hS
 refine ⟨q, x2.trans e, hl, ?_⟩
 rw [y1]
 exact (hq.below.block q (Array.getElem?_eq_some_iff.1 hb).1).trans hb
theorem CN.alloc {k k2 : Nat} {w0 : World} {ty : TypeId} {xs ys : Array Value} {S : Nat → Bool} {f : Nat → Value} {w1 : World} (h : CN k k2 w0 ty xs ys S f w1) (hS2 : S k2 = false) (hne : k2 ≠ k) {v : Value} (hv : v = .pointer (some ⟨w1.heap.size, 0, none⟩)) : CN k k2 w0 ty xs ys (Ri.upd S k true) (Ri.upd f k v) (w1.alloc (.cells xs ty)) := by
 refine ⟨h.1.alloc _, fun _ => ⟨w1.heap.size, by rw [Ri.upd_at]; exact hv, h.1.size, ?_⟩⟩
 rw [Ri.upd_ne _ _ hne, hS2, if_neg (by decide)]
 exact heap_alloc_new w1 _
theorem CN.store {k k2 : Nat} {w0 : World} {ty : TypeId} {xs ys : Array Value} {S : Nat → Bool} {f : Nat → Value} {w1 : World} (h : CN k k2 w0 ty xs ys S f w1) (hS : S k = true) (hne : k ≠ k2) {q : Nat} (hq : f k = .pointer (some ⟨q, 0, none⟩)) (v : Value) : CN k k2 w0 ty xs ys (Ri.upd S k2 true) (Ri.upd f k2 v) (w1.setRow q ys) := by
 obtain ⟨q', e, hl, hb⟩ := h.2 hS
 rw [hq] at e
 injection e with e
 injection e with e
 injection e with e
 subst e
 refine ⟨q_setRow h.1 hl, fun _ => ⟨q, by rw [Ri.upd_ne _ _ hne]; exact hq, hl, ?_⟩⟩
 rw [Ri.upd_at, if_pos rfl]
 exact setRow_heap w1 q _ _ _ _ hb
namespace Ri
end Ri
structure Fnd (wd : Int) (b : Bool) (ty : TypeId) (W : World) (l : Lay) (xs : List Int) (gl gt gr : Nat) (j : Nat) (at_ : Int) (lj : Lay) (wr : World) : Prop where
 fd : findL wd l 0 (xs.take j) = (at_, lj, 0)
 q : Q W wr
 bl : wr.heap[gl]? = some (.cells (encL lj).toArray 24 (0, 0))
 bt : wr.heap[gt]? = some (.cells #[.int .i64 wd, .bool b] ty (0, 0))
 br : wr.heap[gr]? = some (.cells #[.int .i64 0, .int .i64 0, .bool false, .slice none 0 0] 24 (0, 0))
theorem Fnd.up {wd : Int} {b : Bool} {ty : TypeId} {W : World} {l : Lay} {xs : List Int} {gl gt gr j : Nat} {at_ : Int} {lj : Lay} {wr w' : World} (h : Fnd wd b ty W l xs gl gt gr j at_ lj wr) (hq : Q wr w') : Fnd wd b ty W l xs gl gt gr j at_ lj w' :=
 ⟨h.fd, h.q.trans hq, blk_q h.bl hq, blk_q h.bt hq, blk_q h.br hq⟩
theorem take_snoc {xs : List Int} {j : Nat} {x : Int} (hx : xs[j]? = some x) : xs.take (j + 1) = xs.take j ++ [x] := by
 rw [List.take_add_one, hx]
 rfl
theorem Fnd.next {wd : Int} {b : Bool} {ty : TypeId} {W : World} {l : Lay} {xs : List Int} {gl gt gr j : Nat} {at_ : Int} {lj : Lay} {wr : World} (h : Fnd wd b ty W l xs gl gt gr j at_ lj wr) {x : Int} (hx : xs[j]? = some x) (hs : stE lj x = 0) (hg : W.heap.size ≤ gl) (h1 : gt ≠ gl) (h2 : gr ≠ gl) {cs : Array Value} (hc : cs = (encL (stL lj x)).toArray) : Fnd wd b ty W l xs gl gt gr (j + 1) (at_ + stA wd lj x) (stL lj x) (wr.setRow gl cs) := by
 refine ⟨?_, q_setRow h.q hg, ?_, (setRow_other wr gl gt _ h1).trans h.bt, (setRow_other wr gl gr _ h2).trans h.br⟩
 ·rw [take_snoc hx, findL_snoc _ _ _ _ _ _ h.fd]
  simp only [findL]
  rw [if_pos hs]
 ·rw [hc]
  exact setRow_heap wr gl _ _ _ _ h.bl
theorem Fnd.stop {wd : Int} {b : Bool} {ty : TypeId} {W : World} {l : Lay} {xs : List Int} {gl gt gr j : Nat} {at_ : Int} {lj : Lay} {wr : World} (h : Fnd wd b ty W l xs gl gt gr j at_ lj wr) {x : Int} (hx : xs[j]? = some x) (hs : stE lj x ≠ 0) : findL wd l 0 xs = (0, noL, stE lj x) := by
 have h1 : findL wd l 0 (xs.take (j + 1)) = (0, noL, stE lj x) := by
  rw [take_snoc hx, findL_snoc _ _ _ _ _ _ h.fd]
  simp only [findL]
  rw [if_neg hs]
 rw [← List.take_append_drop (j + 1) xs, findL_bad _ _ _ _ (by rw [h1]; exact hs), h1]
theorem Fnd.start {wd : Int} {b : Bool} {ty : TypeId} {W : World} {l : Lay} {xs : List Int} {gl gt gr : Nat} {wr : World} (q : Q W wr) (bl : wr.heap[gl]? = some (.cells (encL l).toArray 24 (0, 0))) (bt : wr.heap[gt]? = some (.cells #[.int .i64 wd, .bool b] ty (0, 0))) (br : wr.heap[gr]? = some (.cells #[.int .i64 0, .int .i64 0, .bool false, .slice none 0 0] 24 (0, 0))) : Fnd wd b ty W l xs gl gt gr 0 0 l wr := ⟨by simp [findL], q, bl, bt, br⟩
theorem set4row {w : World} {g : Nat} {a0 a1 a2 a3 : Value} {ty : TypeId} (h : w.heap[g]? = some (.cells #[a0, a1, a2, a3] ty (0, 0))) (v0 v1 v2 v3 : Value) : ((((w.setCell ⟨g, 0, none⟩ v0).setCell ⟨g, 1, none⟩ v1).setCell ⟨g, 2, none⟩ v2).setCell ⟨g, 3, none⟩ v3) = w.setRow g #[v0, v1, v2, v3] := by
 have h1 := setRow_heap w g _ #[v0, a1, a2, a3] ty (0, 0) h
 have h2 := setRow_heap w g _ #[v0, v1, a2, a3] ty (0, 0) h
 have h3 := setRow_heap w g _ #[v0, v1, v2, a3] ty (0, 0) h
 have e0 : w.setCell ⟨g, 0, none⟩ v0 = w.setRow g #[v0, a1, a2, a3] := setCell_eq_setRow w g 0 _ ty (0, 0) v0 h
 have e1 : (w.setRow g #[v0, a1, a2, a3]).setCell ⟨g, 1, none⟩ v1 = w.setRow g #[v0, v1, a2, a3] := (setCell_eq_setRow _ g 1 _ ty (0, 0) v1 h1).trans (setRow_setRow ..)
 have e2 : (w.setRow g #[v0, v1, a2, a3]).setCell ⟨g, 2, none⟩ v2 = w.setRow g #[v0, v1, v2, a3] := (setCell_eq_setRow _ g 2 _ ty (0, 0) v2 h2).trans (setRow_setRow ..)
 have e3 : (w.setRow g #[v0, v1, v2, a3]).setCell ⟨g, 3, none⟩ v3 = w.setRow g #[v0, v1, v2, v3] := (setCell_eq_setRow _ g 3 _ ty (0, 0) v3 h3).trans (setRow_setRow ..)
 rw [e0, e1, e2, e3]
theorem Fnd.know {wd : Int} {b : Bool} {ty : TypeId} {w W : World} {l : Lay} {xs : List Int} {gl gt gr j : Nat} {at_ : Int} {lj : Lay} {wr : World} (h : Fnd wd b ty W l xs gl gt gr j at_ lj wr) (hl : LayR w l) (ho : Okw wd l) (hc : l.count ≤ 1048576) : LayR w lj ∧ Okw wd lj ∧ lj.count ≤ 1048576 ∧ 0 ≤ at_ ∧ at_ ≤ 4096 * xs.length := by
 obtain ⟨x1, x2, x3, x4, x5, -⟩ := find_al (xs.take j) l 0 hl ho (Int.le_refl 0) (Int.zero_emod _) _ _ h.fd
 have hlen : ((xs.take j).length : Int) ≤ xs.length := by rw [List.length_take]; omega
 exact ⟨x1, x2, by omega, x4, by omega⟩
theorem LayR.frame' {w w' : World} {P : Nat → Prop} {l : Lay} (h : LayR w l) (hP : ∀ i, P i → i < w.heap.size → w'.heap[i]? = w.heap[i]?) (hs : w.heap.size ≤ w'.heap.size) : LayB P l → LayR w' l := by
 induction h with
 | @mk k n f A len cap ps h1 h2 h3 h4 h5 _ ih =>
  intro hb
  cases hb with
  | mk b1 b2 =>
   refine .mk h1 h2 ⟨?_, h3.len, h3.cap, h3.most⟩ h4 h5 (fun p hp => ih p hp (b2 p hp))
   rcases h3.rd with h | ⟨b, o, e, hlt, hc⟩
   ·exact .inl h
   ·exact .inr ⟨b, o, e, Nat.lt_of_lt_of_le hlt hs, fun j u hu => (World.cell?_of_block (a := ⟨b, o + j, none⟩) (hP b (b1 _ e) hlt)).trans (hc j u hu)⟩
structure Cpd (w2 : World) (ps : List Lay) (j : Nat) (u : Value) (ls : List Lay) (wr : World) : Prop where
 sh : ls.map Lay.ske = (ps.take j).map Lay.ske
 own : wr.ownsRow w2.heap.size 24 4 u j (ls.flatMap encL)
 q : Q w2 wr
 all : ∀ q ∈ ls, LayR wr q ∧ LayB (fun b => w2.heap.size ≤ b ∧ b < wr.heap.size ∧ u.ownBlock ≠ some b) q
theorem Cpd.start (w2 : World) (ps : List Lay) : Cpd w2 ps 0 (.slice none 0 0) [] w2 := ⟨by simp, World.ownsRow_nil _ _ _ _, Q.refl _, fun q h => by cases h⟩
theorem Cpd.next {w2 wr w5 w8 : World} {ps ls : List Lay} {j : Nat} {u v8 : Value} {p l' : Lay} (h : Cpd w2 ps j u ls wr) (hp : ps[j]? = some p) (hq : Q wr w5) (hs : l'.ske = p.ske) (hl : LayR w5 l') {B : Nat} (hB : wr.heap.size ≤ B) (hb : LayB (fun b => B ≤ b ∧ b < w5.heap.size) l')
  (ho : w8.ownsRow w2.heap.size 24 4 v8 (j + 1) (ls.flatMap encL ++ encL l')) (hg : w5.grownBy w8 u.ownBlock) (hv : v8.ownBlock = u.ownBlock ∨ v8.ownBlock = some (w5.heap.size + 1)) : Cpd w2 ps (j + 1) v8 (ls ++ [l']) w8 := by
 have hlt := h.own.lt
 have hs1 := h.q.size
 have hs2 := hq.size
 have hs3 := hg.size
 refine ⟨?_, ?_, q_grown (h.q.trans hq) hg (fun k e => (hlt k e).1), fun q hm => ?_⟩
 ·rw [List.map_append, h.sh, List.take_add_one, hp, List.map_append]
  simp [hs]
 ·rw [List.flatMap_append]
  simpa using ho
 ·rcases List.mem_append.1 hm with hm | hm
  ·obtain ⟨r, b⟩ := h.all q hm
   refine ⟨(r.up hq).frame hg (b.mono fun k hk e => hk.2.2 e.symm), b.mono fun k hk => ⟨hk.1, by omega, ?_⟩⟩
   rcases hv with e | e
   ·rw [e]; exact hk.2.2
   ·rw [e]
    intro e2
    injection e2 with e2
    omega
  ·rw [List.mem_singleton] at hm
   subst hm
   refine ⟨hl.frame hg (hb.mono fun k hk e => ?_), hb.mono fun k hk => ⟨by omega, by omega, ?_⟩⟩
   ·have := (hlt k e.symm).2
    omega
   ·rcases hv with e | e
    ·intro e2
     rw [e] at e2
     have := (hlt k e2).2
     omega
    ·rw [e]
     intro e2
     injection e2 with e2
     omega
theorem Cpd.end_ {w2 wr : World} {ps ls : List Lay} {len : Nat} {u : Value} (h : Cpd w2 ps len u ls wr) (hl : ps.length = len) (h5 : len ≤ 140737488351232) {k n : Int} {f : Bool} {A : Option Addr} {cap : Nat} (hk : (Lit.int .i64 k).wf = true) (hn : (Lit.int .i64 n).wf = true) : ∃ A' c', u = .slice A' len c' ∧ LayR wr (.mk k n f A' len c' ls) ∧ LayB (fun b => w2.heap.size ≤ b ∧ b < wr.heap.size) (.mk k n f A' len c' ls) ∧ (Lay.mk k n f A' len c' ls).ske = (Lay.mk k n f A len cap ps).ske := by
 have hsh := h.sh
 rw [← hl, List.take_length] at hsh
 have hown := h.own
 have hlt := hown.lt
 have hsk : ∀ A' c', (Lay.mk k n f A' len c' ls).ske = (Lay.mk k n f A len cap ps).ske := fun A' c' => by rw [ske_mk, ske_mk, hsh]
 obtain ⟨A', c', rfl, -⟩ := own_form hown
 refine ⟨A', c', rfl, ?_, ?_, hsk A' c'⟩
 ·refine .mk hk hn (Sl.own hown len_encL (by decide)) (fun e => ?_) h5 (fun q hq => (h.all q hq).1)
  subst e
  rcases hown.2 with ⟨e, e2⟩ | ⟨g, c2, cur, e, -⟩
  ·injection e with _ e3 e4
   exact ⟨e3, e4⟩
  ·injection e with e
   cases e
 ·refine .mk (fun a ha => ?_) (fun q hq => (h.all q hq).2.mono fun b hb => ⟨hb.1, hb.2.1⟩)
  subst ha
  exact hlt a.block rfl
open Go.ChangeShapes Go.WideShapes Go.ChangeAt Go.RowKit
theorem rdTgt : Rdr Try.prog 26 2 (fun p : Int × Bool => encI .i64 p.1 ++ encB p.2) (fun w p => (Lit.int .i64 p.1).wf = true ∧ True) :=
 Rdr.struct Try.underlying26 (by kernel_rfl) (by
  refine RdrF.cons (i := 0) (off := 0) (k := 1) (k' := 1) (enc := encI .i64) (enc' := encB) (ok := fun (_ : World) (a : Int) => (Lit.int .i64 a).wf = true) (ok' := fun _ _ => True) (f := _) (hf := rfl) ?_ ?_ ?_
  ·rfl
  ·exact Rdr.int Try.underlying3 (by kernel_rfl)
  refine RdrF.one (f := _) (hf := rfl) ?_ ?_
  ·rfl
  exact Rdr.bool Try.underlying4 (by kernel_rfl))
theorem rdTwo (Z : Nat) : RdrC (Z + 1) Try.prog 28 6 (fun p : Lay × (Int × Bool) => encL p.1 ++ (encI .i64 p.2.1 ++ encB p.2.2)) (fun w p => LayR w p.1 ∧ ((Lit.int .i64 p.2.1).wf = true ∧ True)) (fun p => (p.1.count + 0) + 1) :=
 RdrC.struct Try.underlying28 (by kernel_rfl) (by
  refine RdrFC.cons (i := 0) (off := 0) (k := 4) (k' := 2) (enc := encL) (enc' := fun p : Int × Bool => encI .i64 p.1 ++ encB p.2) (ok := LayR) (ok' := fun (_ : World) (p : Int × Bool) => (Lit.int .i64 p.1).wf = true ∧ True) (sz := Lay.count) (sz' := fun _ => 0) (f := _) (hf := rfl) ?_ ?_ ?_
  ·rfl
  ·exact lay_all Z
  refine RdrFC.one (f := _) (hf := rfl) ?_ ?_
  ·rfl
  exact rdTgt.c Z)
theorem RdrC.arg {P : Program} {t : TypeId} {k : Nat} {α : Type} {enc : α → List Value} {ok : World → α → Prop} {sz : α → Nat} (R : ∀ Z, RdrC (Z + 1) P t k enc ok sz) {H : Type} {en : TypeId × Value → H} {w : World} {v : Value} {d : DataW H} {ps : List MemPlace}
  (hd : DataW.Trod en P w 0 (fun _ => true) true t v d ps) {ts : List TypeId} {ds : List (DataW H)} (hs : (DataW.weightsEach P ts ds).all (· ≤ reachBytes) = true) {j : Nat} (htj : ts[j]? = some t) (hdj : ds[j]? = some d) :
  ∃ a, v.cells.toList = enc a ∧ ok w a ∧ sz a ≤ Rows.uptoBulk d := by
 obtain ⟨fuel, hf⟩ := hd
 exact (R (SizeOf.sizeOf d)).read (x := (d, ps)) (Nat.lt_succ_self _) hf (fun m hm => of_decide_eq_true (List.all_eq_true.1 hs m (DataW.weights_mem_each htj hdj m hm)))
end Go.Proofs.Ytbgbalfhbficaaa
