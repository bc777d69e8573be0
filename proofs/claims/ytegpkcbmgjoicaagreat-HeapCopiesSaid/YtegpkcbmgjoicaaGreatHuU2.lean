/- Which heaps are the same, and which of the reference are: plain. No program. A region that draws its order and holds a store into a block that is read ahead of it. Conditions: as each theorem says. -/
import Derived.Test.YtegpkcbmgjoicaaGreatHuD
import Derived.Test.YtegpkcbmgjoicaaGreatHuU1
namespace Go.Proofs.YtegpkcbmgjoicaaGreat
open Go.RowKit HP
set_option linter.unusedVariables false
theorem live_iff {m1 m2 : HM} {r1 r2 : RM} (S1 : Sim m1 r1) (S2 : Sim m2 r2) (I1 : Inv m1) (I2 : Inv m2) : m1.live = m2.live ↔ r1.bl = r2.bl ∧ ∀ p ∈ r1.bl, sameY r1.ys r2.ys p := by
  rw [S1.bl, S2.bl]
  unfold stretches
  constructor
  · intro e
    refine ⟨by rw [e], fun p hp k h1 h2 => ?_⟩
    obtain ⟨x, hx, rfl⟩ := List.mem_map.1 hp
    have hin := I1.fit.inn x hx
    unfold shape at h1 h2
    dsimp only at h1 h2
    obtain ⟨j, hj⟩ : ∃ j : Nat, k = x.1.toNat + j := ⟨k - x.1.toNat, by omega⟩
    have hjl : j < x.2.length := by omega
    rw [hj, S1.ys x hx j _ (List.getElem?_eq_getElem hjl), S2.ys x (by rw [← e]; exact hx) j _ (List.getElem?_eq_getElem hjl)]
  · rintro ⟨e, hs⟩
    refine List.ext_getElem? fun i => ?_
    have ei : (m1.live.map shape)[i]? = (m2.live.map shape)[i]? := by rw [e]
    rw [List.getElem?_map, List.getElem?_map] at ei
    cases h1 : m1.live[i]? with
    | none =>
      rw [h1] at ei
      cases h2 : m2.live[i]? with
      | none => rfl
      | some x => rw [h2] at ei; cases ei
    | some x =>
      rw [h1] at ei
      cases h2 : m2.live[i]? with
      | none => rw [h2] at ei; cases ei
      | some y =>
        rw [h2] at ei
        have ei : shape x = shape y := Option.some.inj ei
        have hx := List.mem_of_getElem? h1
        have hy := List.mem_of_getElem? h2
        have hin := I1.fit.inn x hx
        have e1 : x.1 = y.1 := show (shape x).1 = (shape y).1 by rw [ei]
        have e2 : (x.2.length : Int) = (y.2.length : Int) := show (shape x).2 = (shape y).2 by rw [ei]
        have hsp := hs (shape x) (List.mem_map.2 ⟨x, hx, rfl⟩)
        have e3 : x.2 = y.2 := by
          refine List.ext_getElem (by omega) fun j hj1 hj2 => ?_
          have a1 := S1.ys x hx j _ (List.getElem?_eq_getElem hj1)
          have a2 := S2.ys y hy j _ (List.getElem?_eq_getElem hj2)
          have a3 := hsp (x.1.toNat + j) (by show x.1 ≤ _; omega) (by show _ < x.1 + (x.2.length : Int); omega)
          rw [a1, e1, a2] at a3
          exact Option.some.inj a3
        have : x = y := Prod.ext e1 e3
        rw [this]
theorem same_sim {m1 m2 : HM} {r1 r2 : RM} (S1 : Sim m1 r1) (S2 : Sim m2 r2) (I1 : Inv m1) (I2 : Inv m2) (h0 : m1.kind = m2.kind) (h1 : m1.piece = m2.piece) (h2 : m1.size = m2.size) : sameM m1 m2 = sameR r1 r2 := by
  rw [Bool.eq_iff_iff]
  unfold sameM sameR
  simp only [Bool.and_eq_true, beq_iff_eq, decide_eq_true_eq]
  rw [S1.top, S2.top, S1.peak, S2.peak, S1.calls, S2.calls, S1.fail, S2.fail]
  constructor
  · rintro ⟨⟨⟨⟨⟨⟨⟨-, -⟩, -⟩, d⟩, e⟩, f⟩, g⟩, h⟩
    have hl := (live_iff S1 S2 I1 I2).1 h
    exact ⟨⟨⟨⟨⟨g, d⟩, e⟩, f⟩, hl.1⟩, hl.2⟩
  · rintro ⟨⟨⟨⟨⟨g, d⟩, e⟩, f⟩, h3⟩, h4⟩
    exact ⟨⟨⟨⟨⟨⟨⟨h0, h1⟩, h2⟩, d⟩, e⟩, f⟩, g⟩, (live_iff S1 S2 I1 I2).2 ⟨h3, h4⟩⟩
theorem rSame_any (v u : RV) (w : World) (H : RmR w v) (K : RmR w u) (N : RmN v.m) (M : RmN u.m) (h0 : v.m.kind = u.m.kind) (h1 : v.m.size = u.m.size) (h2 : v.m.piece = u.m.piece) :
    Calls Tryz.prog 14 #[v.val, u.val] w fun e w' => e = .returned (.bool (sameR v.m u.m)) ∧ Q w w' := by
  unfold sameR
  by_cases e5 : v.m.top = u.m.top
  · by_cases e6 : v.m.peak = u.m.peak
    · by_cases e7 : v.m.calls = u.m.calls
      · by_cases e8 : v.m.fail = u.m.fail
        · by_cases hl : v.n = u.n
          · have := rSame_rest v u w H K N M h0 h1 h2 e5 e6 e7 e8 hl
            simp only [e5, e6, e7, e8, beq_self_eq_true, Bool.true_and]
            refine this.mono ?_
            rintro e w' ⟨he, hq⟩
            exact ⟨by rw [he], hq⟩
          · have hbl : ¬ v.m.bl = u.m.bl := fun e => hl (by have a := H.b.len; have b := K.b.len; rw [e] at a; omega)
            have := rSame_len v u w H K N M h0 h1 h2 e5 e6 e7 e8 hl
            rw [show decide (v.m.bl = u.m.bl) = false from decide_eq_false hbl]
            simpa using this
        · have := rSame_fail v u w H K N M h0 h1 h2 e5 e6 e7 e8
          rw [show (v.m.fail == u.m.fail) = false by simpa using e8]
          simpa using this
      · have := rSame_calls v u w H K N M h0 h1 h2 e5 e6 e7
        rw [show (v.m.calls == u.m.calls) = false by simpa using e7]
        simpa using this
    · have := rSame_peak v u w H K N M h0 h1 h2 e5 e6
      rw [show (v.m.peak == u.m.peak) = false by simpa using e6]
      simpa using this
  · have := rSame_top v u w H K N M h0 h1 h2 e5
    rw [show (v.m.top == u.m.top) = false by simpa using e5]
    simpa using this
end Go.Proofs.YtegpkcbmgjoicaaGreat

namespace Go.Proofs.YtegpkcbmgjoicaaGreat
open Go.RowKit HP
set_option linter.unusedVariables false
namespace Ri
/-- c: the operation that stores; ahead of it Pre holds, behind it G -/
theorem made_pre {P : Program} {id : Nat} {R : Exit → Act → World → Prop} {a : Act} {w : World} {l : List Oper} (c : Nat) (φ : Nat → Value → World → Prop) (Pre G : World → Prop) (St : World → World → Prop) (hm : P.follows .mixedOrders = true) (hB : chk l = true) (hcl : c < l.length)
    (hmono : ∀ i v w1 w2, φ i v w1 → Q w1 w2 → φ i v w2) (hPre : ∀ w1 w2, Pre w1 → Q w1 w2 → Pre w2) (hG : ∀ w1 w2, G w1 → Q w1 w2 → G w2) (hst : ∀ i v w1 w2, φ i v w1 → Pre w1 → St w1 w2 → φ i v w2) (h0 : Pre w.drew) (hφc : ∀ v w1, φ c v w1)
    (hstep : All (fun k o => (k = c → o.guard = none ∧ ∀ (f : Nat → Value) (w1 : World), Pre w1 → (∀ j, dep l.toArray l.length k j = true → φ j (f j) w1) → ∀ A : Act, (∀ d i, ((l[i]?).bind (·.dst)) = some d → d < a.tmps.size → A.eval (.tmp d) = f i) → (∀ d, apartD (some d) l = true → A.eval (.tmp d) = a.eval (.tmp d)) →
        o.wp P A w1 (fun a' w' => ∃ v, a' = A.put o.dst v ∧ St w1 w' ∧ G w') R) ∧
      (k ≠ c → o.guard = none ∧ ∀ (f : Nat → Value) (w1 : World), (dep l.toArray l.length c k = true → Pre w1) → (∀ j, dep l.toArray l.length k j = true → φ j (f j) w1) → ∀ A : Act, (∀ d i, ((l[i]?).bind (·.dst)) = some d → d < a.tmps.size → A.eval (.tmp d) = f i) → (∀ d, apartD (some d) l = true → A.eval (.tmp d) = a.eval (.tmp d)) →
        o.wp P A w1 (fun a' w' => ∃ v, a' = A.put o.dst v ∧ Q w1 w' ∧ φ k v w') R)) 0 l)
    (hend : ∀ f w', G w' → (∀ j, j < l.length → φ j (f j) w') → R .normal (acts f 0 l a) w') : (Code.region id l.toArray true).wp P R a w := by
  unfold chk at hB
  rw [Bool.and_eq_true] at hB
  have hev : ∀ (f : Nat → Value) d i, ((l[i]?).bind (·.dst)) = some d → d < a.tmps.size → (acts f 0 l a).eval (.tmp d) = f i := fun f d i hdi hs => acts_get l 0 a hB.1 (Nat.zero_le _) (by simpa using hdi) hs
  have hsame : ∀ (f : Nat → Value) d, apartD (some d) l = true → (acts f 0 l a).eval (.tmp d) = a.eval (.tmp d) := fun f d hd' => acts_same l 0 a hd'
  refine wp_region_any hm ?_
  have hst0 : a = acts (old a l) 0 l a := start
  have key := any (P := P) (ops := l.toArray) (R := R) (A := fun f => acts f 0 l a) (fun S f w' => (S c = false → Pre w') ∧ (∀ j, j < l.length → S j = true → φ j (f j) w') ∧ (S c = true → G w') ∧ ∀ j, S j = false → f j = old a l j)
    (fun f i o v ho => acts_upd v l 0 a hB.1 (Nat.zero_le _) (by simpa using ho)) hB.2
    (fun S f w1 i o ho hSi hdep hwait hJ => by
      have ho' : l[i]? = some o := by simpa using ho
      have hs := all_get hstep ho'
      rw [Nat.zero_add] at hs
      obtain ⟨hQ, hP, hGG, hO⟩ := hJ
      have hdl : ∀ j, dep l.toArray l.length i j = true → φ j (f j) w1 := fun j hj => by
        have hSj := hdep j (by simpa using hj)
        refine hP j ?_ hSj
        refine Classical.byContradiction fun hge => ?_
        exact absurd hj (by rw [dep_far hB.2 l.length i j (by simpa using hge)]; exact Bool.false_ne_true)
      have hold : ∀ v j, upd S i true j = false → upd f i v j = old a l j := fun v j hSj => by
        unfold upd at hSj ⊢
        by_cases e : j = i
        · rw [if_pos e] at hSj; cases hSj
        · rw [if_neg e] at hSj ⊢
          exact hO j hSj
      by_cases hic : i = c
      · subst hic
        obtain ⟨sg, sw⟩ := hs.1 rfl
        have hp := hQ hSi
        have := sw f w1 hp hdl _ (hev f) (hsame f)
        rw [if_pos (by simp [Region.wanted, sg])]
        refine Oper.wp_mono (fun a' w2 ⟨v, e, hS, hg⟩ => ⟨v, e, fun h => ?_, fun j hj hSj => ?_, fun _ => hg, hold v⟩) this
        · unfold upd at h
          rw [if_pos rfl] at h
          cases h
        · unfold upd at hSj ⊢
          by_cases e : j = i
          · rw [if_pos e, e]; exact hφc _ _
          · rw [if_neg e] at hSj ⊢
            exact hst _ _ _ _ (hP j hj hSj) hp hS
      · obtain ⟨sg, sw⟩ := hs.2 hic
        have hpre : dep l.toArray l.length c i = true → Pre w1 := fun h => hQ (hwait c (by simpa using h))
        have := sw f w1 hpre hdl _ (hev f) (hsame f)
        have hcc : upd S i true c = S c := by
          unfold upd
          rw [if_neg (fun e => hic e.symm)]
        rw [if_pos (by simp [Region.wanted, sg])]
        refine Oper.wp_mono (fun a' w2 ⟨v, e, hq, hφ⟩ => ⟨v, e, fun h => hPre _ _ (hQ (by rw [← hcc]; exact h)) hq, fun j hj hSj => ?_, fun h => hG _ _ (hGG (by rw [← hcc]; exact h)) hq, hold v⟩) this
        unfold upd at hSj ⊢
        by_cases e : j = i
        · rw [if_pos e, e]; exact hφ
        · rw [if_neg e] at hSj ⊢
          exact hmono _ _ _ _ (hP j hj hSj) hq)
    (fun S f w1 hall hJ => hend f w1 (hJ.2.2.1 (hall c (by simpa using hcl))) (fun j hj => hJ.2.1 j hj (hall j (by simpa using hj))))
    l.toArray.size (Array.replicate l.toArray.size false) (old a l) { w with drawn := w.drawn + 1 } (by simp) (by simp) (fun i o ho h => absurd h (by rw [getD_rep]; exact Bool.false_ne_true)) (by
      have nf : ∀ j, ¬ (Array.replicate l.toArray.size false).getD j false = true := fun j => by rw [getD_rep]; exact Bool.false_ne_true
      exact ⟨fun _ => h0, fun j hj h => absurd h (nf j), fun h => absurd h (nf c), fun j _ => rfl⟩)
  rw [← hst0] at key
  exact key
def MonoS (Pre : World → Prop) (St : World → World → Prop) (p : Value → World → Prop) : Prop := ∀ v w1 w2, p v w1 → Pre w1 → St w1 w2 → p v w2
theorem mono_isS {Pre : World → Prop} {St : World → World → Prop} (c : Value) : MonoS Pre St (isV c) := fun _ _ _ h _ _ => h
def MonoSL (Pre : World → Prop) (St : World → World → Prop) : List (Value → World → Prop) → Prop
  | [] => True
  | p :: r => MonoS Pre St p ∧ MonoSL Pre St r
theorem phi_monoS {Pre : World → Prop} {St : World → World → Prop} : ∀ {ps : List (Value → World → Prop)}, MonoSL Pre St ps → ∀ i, MonoS Pre St (phi ps i)
  | [], _, i => fun _ _ _ _ _ _ => trivial
  | p :: r, h, 0 => h.1
  | p :: r, h, i + 1 => phi_monoS (ps := r) h.2 i
end Ri
/-- two references in hand, as the tuple that Act hands back, as a value, and as the cells of a block -/
def Good2T (w0 : World) (g1 : Nat) (m1 : HM) (g2 : Nat) (m2 : HM) (v1 : RV) (bM bN : Nat) (x y : Int) (v : Value) (W : World) : Prop := ∃ v', v = .tuple #[v'.val, .int .i64 x, .int .i64 y] ∧ Sim m2 v'.m ∧ OR2 w0 W g1 m1 g2 m2 v1 v' bM bN
def Good2V (w0 : World) (g1 : Nat) (m1 : HM) (g2 : Nat) (m2 : HM) (v1 : RV) (bM bN : Nat) (v : Value) (W : World) : Prop := ∃ v', v = v'.val ∧ Sim m2 v'.m ∧ OR2 w0 W g1 m1 g2 m2 v1 v' bM bN
def Good2B (w0 : World) (g1 : Nat) (m1 : HM) (g2 : Nat) (m2 : HM) (v1 : RV) (bM bN : Nat) (v : Value) (W : World) : Prop := ∃ b v', v = .pointer (some ⟨b, 0, none⟩) ∧ W.heap[b]? = some (.cells v'.cells MT (0, 0)) ∧ Sim m2 v'.m ∧ OR2 w0 W g1 m1 g2 m2 v1 v' bM bN
section
variable {w0 w : World} {g1 g2 : Nat} {m1 m2 : HM} {v1 : RV} {bM bN : Nat} {x y : Int}
theorem good2T_q : Ri.Mono (Good2T w0 g1 m1 g2 m2 v1 bM bN x y) := fun _ _ _ ⟨v', e, S, O⟩ hq => ⟨v', e, S, O.q hq⟩
theorem good2V_q : Ri.Mono (Good2V w0 g1 m1 g2 m2 v1 bM bN) := fun _ _ _ ⟨v', e, S, O⟩ hq => ⟨v', e, S, O.q hq⟩
theorem good2B_q : ∀ v w1 w2, Good2B w0 g1 m1 g2 m2 v1 bM bN v w1 → Q w1 w2 → Good2B w0 g1 m1 g2 m2 v1 bM bN v w2 := fun _ _ _ ⟨b, v', e, h, S, O⟩ hq => ⟨b, v', e, (hq.below.block b (blk_lt h)).trans h, S, O.q hq⟩
theorem good2T_b (hw : w0.heap.size ≤ w.heap.size) : Ri.MonoB w (Good2T w0 g1 m1 g2 m2 v1 bM bN x y) := fun _ b _ _ ⟨v', e, S, O⟩ hb h => ⟨v', e, S, O.stB h (Nat.le_trans hw hb)⟩
theorem good2V_b (hw : w0.heap.size ≤ w.heap.size) : Ri.MonoB w (Good2V w0 g1 m1 g2 m2 v1 bM bN) := fun _ b _ _ ⟨v', e, S, O⟩ hb h => ⟨v', e, S, O.stB h (Nat.le_trans hw hb)⟩
end
/-- the box of a model is stored anew -/
def StM (bM : Nat) (W W' : World) : Prop := Turn (fun i => i = bM) W W'
theorem goodT_m {w0 : World} {g : Nat} {m : HM} {bM : Nat} {x y : Int} {v : Value} {w1 w2 : World} (h : GoodT w0 g m bM x y v w1) (hb : ∃ cs, w1.heap[bM]? = some (.cells cs MT (0, 0))) (hw : w0.heap.size ≤ bM) (hs : StM bM w1 w2) : GoodT w0 g m bM x y v w2 := by
  obtain ⟨v', e, S, O⟩ := h
  obtain ⟨cs, hc⟩ := hb
  exact ⟨v', e, S, O.box hc hs (Turn.q_of O.toQ hs fun i e => by rw [e]; exact hw)⟩
theorem goodV_m {w0 : World} {g : Nat} {m : HM} {bM : Nat} {v : Value} {w1 w2 : World} (h : GoodV w0 g m bM v w1) (hb : ∃ cs, w1.heap[bM]? = some (.cells cs MT (0, 0))) (hw : w0.heap.size ≤ bM) (hs : StM bM w1 w2) : GoodV w0 g m bM v w2 := by
  obtain ⟨v', e, S, O⟩ := h
  obtain ⟨cs, hc⟩ := hb
  exact ⟨v', e, S, O.box hc hs (Turn.q_of O.toQ hs fun i e => by rw [e]; exact hw)⟩
end Go.Proofs.YtegpkcbmgjoicaaGreat
