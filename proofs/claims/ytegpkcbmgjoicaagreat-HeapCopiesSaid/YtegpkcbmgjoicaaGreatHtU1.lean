/- A byte that was stored stays, whatever else is done: plain. No program. A heap and the reference's one go hand in hand: plain. No program. A heap and the reference's one go hand in hand, the other acts: plain. No program. Conditions: as each theorem says. -/
import Derived.Test.YtegpkcbmgjoicaaGreatHqV
import Derived.Test.YtegpkcbmgjoicaaGreatHsU5
namespace Go.Proofs.YtegpkcbmgjoicaaGreat
open Go.RowKit HP
set_option linter.unusedVariables false
/-- a live block that begins at bg has the byte b at a place -/
def Holds (m : HM) (bg at_ b : Int) : Prop := ∃ x ∈ m.live, x.1 = bg ∧ bg ≤ at_ ∧ at_ < pend x ∧ x.2[(at_ - bg).toNat]? = some b
theorem inB_iff {at_ : Int} {x : PB} : inB at_ x = true ↔ x.1 ≤ at_ ∧ at_ < pend x := by
  unfold inB
  rw [Bool.and_eq_true, decide_eq_true_eq, decide_eq_true_eq]
theorem inB_uniq {size : Int} {l : List PB} (F : Fit size l) {x y : PB} (hx : x ∈ l) (hy : y ∈ l) {at_ : Int} (h1 : inB at_ x = true) (h2 : inB at_ y = true) : x = y := by
  obtain ⟨i, hi, rfl⟩ := List.getElem_of_mem hx
  obtain ⟨j, hj, rfl⟩ := List.getElem_of_mem hy
  have e1 := inB_iff.1 h1
  have e2 := inB_iff.1 h2
  rcases Nat.lt_trichotomy i j with h | h | h
  · have := (F.lt (List.getElem?_eq_getElem hi) (List.getElem?_eq_getElem hj) h).2
    omega
  · subst h; rfl
  · have := (F.lt (List.getElem?_eq_getElem hj) (List.getElem?_eq_getElem hi) h).2
    omega
theorem find_some {l : List PB} {at_ : Int} {k : Nat} (h : l.findIdx? (inB at_) = some k) : ∃ x, l[k]? = some x ∧ inB at_ x = true := by
  obtain ⟨hk, hp, -⟩ := List.findIdx?_eq_some_iff_getElem.1 h
  exact ⟨l[k], List.getElem?_eq_getElem hk, hp⟩
theorem hold_load {m : HM} (I : Inv m) {bg at_ b : Int} (H : Holds m bg at_ b) (hb : 0 ≤ b) : loadM m at_ = (b, 0) := by
  obtain ⟨x, hx, hbg, h1, h2, h3⟩ := H
  have hin : inB at_ x = true := inB_iff.2 ⟨by omega, h2⟩
  unfold loadM
  cases hf : m.live.findIdx? (inB at_) with
  | none =>
    rw [List.findIdx?_eq_none_iff] at hf
    have := hf x hx
    rw [hin] at this
    cases this
  | some k =>
    obtain ⟨y, hy, hp⟩ := find_some hf
    have e := inB_uniq I.fit hx (List.mem_of_getElem? hy) hin hp
    subst e
    simp only
    rw [hy, Option.bind_some, hbg, h3]
    simp only
    rw [if_neg (by omega)]
theorem hold_store {m : HM} (I : Inv m) {at_ b : Int} (h : (storeM m at_ b).2 = 0) : (0 ≤ b ∧ b ≤ 255) ∧ ∃ bg, Holds (storeM m at_ b).1 bg at_ b := by
  by_cases hb : 0 ≤ b ∧ b ≤ 255
  · refine ⟨hb, ?_⟩
    cases hf : m.live.findIdx? (inB at_) with
    | none => rw [storeM_none hb hf] at h; cases h
    | some k =>
      obtain ⟨x, hx, hp⟩ := find_some hf
      rw [storeM_some hb hf hx]
      obtain ⟨j, v, hj1, hj2, hj3, hv⟩ := inB_j hp
      have hk := (List.getElem?_eq_some_iff.1 hx).1
      have e := inB_iff.1 hp
      refine ⟨x.1, putB x (at_ - x.1).toNat b, ?_, rfl, e.1, ?_, ?_⟩
      · show _ ∈ m.live.set k _
        exact List.mem_set hk _
      · unfold pend putB
        rw [List.length_set]
        exact e.2
      · show (x.2.set (at_ - x.1).toNat b)[(at_ - x.1).toNat]? = some b
        rw [hj2, List.getElem?_set_self hj3]
  · unfold storeM at h
    rw [if_neg hb] at h
    cases h
theorem mem_del {l : List PB} {k : Nat} {x z : PB} (hx : x ∈ l) (hz : l[k]? = some z) (hne : x ≠ z) : x ∈ delAt l k 1 := by
  obtain ⟨i, hi, rfl⟩ := List.getElem_of_mem hx
  have hk := (List.getElem?_eq_some_iff.1 hz).1
  have hik : i ≠ k := fun e => by
    subst e
    rw [List.getElem?_eq_getElem hi] at hz
    exact hne (Option.some.inj hz)
  rcases Nat.lt_or_gt_of_ne hik with h | h
  · refine List.mem_of_getElem? (i := i) ?_
    rw [delAt_get _ _ _ (by omega), if_pos h, List.getElem?_eq_getElem hi]
  · refine List.mem_of_getElem? (i := i - 1) ?_
    rw [delAt_get _ _ _ (by omega), if_neg (by omega), show i - 1 + 1 = i by omega, List.getElem?_eq_getElem hi]
theorem mem_set_ne {l : List PB} {k : Nat} {x z z' : PB} (hx : x ∈ l) (hz : l[k]? = some z) (hne : x ≠ z) : x ∈ l.set k z' := by
  obtain ⟨i, hi, rfl⟩ := List.getElem_of_mem hx
  have hik : k ≠ i := fun e => by
    subst e
    rw [List.getElem?_eq_getElem hi] at hz
    exact hne (Option.some.inj hz)
  refine List.mem_of_getElem? (i := i) ?_
  rw [List.getElem?_set_ne hik, List.getElem?_eq_getElem hi]
theorem Holds.live {m m' : HM} {bg at_ b : Int} (H : Holds m bg at_ b) (h : ∀ x ∈ m.live, x.1 = bg → x ∈ m'.live) : Holds m' bg at_ b := by
  obtain ⟨x, hx, h1, h2⟩ := H
  exact ⟨x, h x hx h1, h1, h2⟩
theorem hold_act {m : HM} (I : Inv m) {bg at_ b : Int} (H : Holds m bg at_ b) (op a b2 : Int) (h3 : ¬ op = 3) (h5 : op = 5 → ¬ a = at_) (h12 : op = 1 ∨ op = 2 → ¬ a = bg) : Holds (actM m op a b2).1 bg at_ b := by
  have hput : ∀ z : PB, ∀ x ∈ m.live, x.1 = bg → x ∈ insAt m.live (below m.live z.1) [z] := fun z x hx _ => insAt_mem.2 (.inr hx)
  unfold actM
  split
  · unfold allocM
    split
    · exact H
    · split
      · exact H
      · split
        · exact H
        · exact H.live (hput _)
  · split
    · rename_i h1
      have hna := h12 (.inl h1)
      unfold freeM
      split
      · exact H
      · rename_i hh
        obtain ⟨z, hz, hza, e⟩ := at_eq I.fit (by simpa using hh)
        rw [e]
        exact H.live fun x hx hxb => mem_del hx hz (fun e2 => hna (by rw [← hza, ← e2, hxb]))
    · split
      · rename_i h2
        have hna := h12 (.inr h2)
        unfold resizeM
        split
        · exact H
        · split
          · exact H
          · rename_i hh
            obtain ⟨z, hz, hza, e⟩ := at_eq I.fit (by simpa using hh)
            rw [e]
            have hne : ∀ x : PB, x.1 = bg → x ≠ z := fun x hxb e2 => hna (by rw [← hza, ← e2, hxb])
            split
            · exact H
            · split
              · exact H.live fun x hx hxb => mem_set_ne hx hz (hne x hxb)
              · split
                · exact H
                · rename_i tgt hr
                  refine H.live fun x hx hxb => ?_
                  have hs : ¬ sizeB b2 = false := by assumption
                  obtain ⟨kn, hkn, hk1, hk2⟩ : ∃ kn : Nat, b2 = (kn : Int) ∧ 1 ≤ kn ∧ kn ≤ 4096 := by
                    unfold sizeB at hs
                    simp at hs
                    exact ⟨b2.toNat, by omega, by omega, by omega⟩
                  subst hkn
                  obtain ⟨-, -, mg, -⟩ := I.count.move (x := z) (List.mem_of_getElem? hz) (alignOfM_pos a).1 hk1 hr
                  exact mem_del (insAt_mem.2 (.inr hx)) mg (hne x hxb)
      · by_cases h3' : op = 3
        · exact absurd h3' h3
        · try rw [if_neg h3]
          split
          · unfold failAtM
            split <;> exact H
          · split
            · rename_i h5'
              have hna := h5 h5'
              unfold storeM
              split
              · split
                · exact H
                · rename_i k hk
                  split
                  · exact H
                  · rename_i z hz
                    obtain ⟨z', hz', hpz⟩ := find_some hk
                    rw [hz] at hz'
                    obtain rfl := Option.some.inj hz'
                    obtain ⟨x, hx, hxb, g1, g2, g3⟩ := H
                    by_cases hxz : x = z
                    · subst hxz
                      have hkl := (List.getElem?_eq_some_iff.1 hz).1
                      have e := inB_iff.1 hpz
                      refine ⟨putB x (a - x.1).toNat b2, List.mem_set hkl _, hxb, g1, ?_, ?_⟩
                      · unfold pend putB
                        rw [List.length_set]
                        exact g2
                      · show (x.2.set (a - x.1).toNat b2)[(at_ - bg).toNat]? = some b
                        rw [List.getElem?_set_ne (by omega)]
                        exact g3
                    · exact ⟨x, mem_set_ne hx hz hxz, hxb, g1, g2, g3⟩
              · exact H
            · split <;> exact H
/-! where the block of a place begins -/
def bgF (at_ : Int) (l : List (Int × Int)) : Int := l.foldl (fun acc x => if x.1 ≤ at_ then x.1 else acc) 0
theorem bgF_take (at_ : Int) (l : List (Int × Int)) (k : Nat) (x : Int × Int) (h : l[k]? = some x) : bgF at_ (l.take (k + 1)) = if x.1 ≤ at_ then x.1 else bgF at_ (l.take k) := by
  unfold bgF
  rw [List.take_add_one, h]
  simp only [Option.toList_some, List.foldl_append, List.foldl_cons, List.foldl_nil]
theorem bgF_holds {m : HM} (I : Inv m) {bg at_ b : Int} (H : Holds m bg at_ b) : bgF at_ (stretches m) = bg := by
  obtain ⟨x, hx, h1, h2, h3, -⟩ := H
  obtain ⟨i, hi, e⟩ := List.getElem_of_mem hx
  have hi' : m.live[i]? = some x := by rw [List.getElem?_eq_getElem hi, e]
  have hs : (stretches m)[i]? = some (shape x) := by unfold stretches; rw [List.getElem?_map, hi']; rfl
  have key : ∀ k, i < k → k ≤ (stretches m).length → bgF at_ ((stretches m).take k) = bg := by
    intro k
    induction k with
    | zero => intro h; omega
    | succ k ih =>
      intro hik hk
      have hk' : k < m.live.length := by rw [str_len] at hk; omega
      have hks : (stretches m)[k]? = some (shape m.live[k]) := by unfold stretches; rw [List.getElem?_map, List.getElem?_eq_getElem hk']; rfl
      rw [bgF_take at_ _ k _ hks]
      by_cases e2 : k = i
      · subst e2
        rw [hks] at hs
        have e3 := Option.some.inj hs
        rw [e3, if_pos (by show x.1 ≤ at_; omega)]
        exact h1
      · have hlt := (I.fit.lt hi' (List.getElem?_eq_getElem hk') (by omega)).2
        rw [if_neg (by show ¬ (m.live[k]).1 ≤ at_; omega)]
        exact ih (by omega) (by omega)
  have := key (stretches m).length (by rw [str_len]; exact hi) (Nat.le_refl _)
  rw [List.take_length] at this
  exact this
end Go.Proofs.YtegpkcbmgjoicaaGreat

namespace Go.Proofs.YtegpkcbmgjoicaaGreat
open Go.RowKit HP
set_option linter.unusedVariables false
structure Sim (m : HM) (r : RM) : Prop where
  kind : r.kind = m.kind
  size : r.size = m.size
  piece : r.piece = m.piece
  pc : 0 ≤ m.piece ∧ m.piece ≤ 4096
  bl : r.bl = stretches m
  ysl : r.ys.length = m.size.toNat
  ys : ∀ x ∈ m.live, ∀ (j : Nat) (v : Int), x.2[j]? = some v → r.ys[x.1.toNat + j]? = some v
  und : ∀ x ∈ m.live, ∀ v ∈ x.2, -1 ≤ v
  top : r.top = markM m
  peak : r.peak = m.peak
  calls : r.calls = m.calls
  fail : r.fail = m.failIn
theorem shape_get {l : List PB} {j : Nat} {p : Int × Int} (h : (l.map shape)[j]? = some p) : ∃ x, l[j]? = some x ∧ shape x = p := by
  rw [List.getElem?_map] at h
  cases hx : l[j]? with
  | none => rw [hx] at h; cases h
  | some x => rw [hx] at h; exact ⟨x, rfl, Option.some.inj h⟩
theorem shape_of {l : List PB} {j : Nat} {x : PB} (h : l[j]? = some x) : (l.map shape)[j]? = some (shape x) := by
  rw [List.getElem?_map, h]
  rfl
theorem setN_get (ys : List Int) (f : Nat) (x : Int) (i : Nat) : ∀ j, (setN ys f x j)[i]? = if f ≤ i ∧ i < f + j then ys[i]?.map (fun _ => x) else ys[i]?
  | 0 => by rw [if_neg (by omega)]; rfl
  | j + 1 => by
    rw [setN, List.getElem?_set, setN_length]
    by_cases h : f + j = i
    · rw [if_pos h, if_pos (show f ≤ i ∧ i < f + (j + 1) by omega)]
      by_cases h2 : f + j < ys.length
      · rw [if_pos h2, List.getElem?_eq_getElem (by omega : i < ys.length)]
        rfl
      · rw [if_neg h2, List.getElem?_eq_none (by omega)]
        rfl
    · rw [if_neg h, setN_get ys f x i j]
      by_cases h2 : f ≤ i ∧ i < f + j
      · rw [if_pos h2, if_pos (by omega)]
      · rw [if_neg h2, if_neg (by omega)]
theorem copyN_get (ys old : List Int) (t f : Nat) (i : Nat) : ∀ j, (copyN ys old t f j)[i]? = if t ≤ i ∧ i < t + j then ys[i]?.map (fun _ => old[f + (i - t)]?.getD 0) else ys[i]?
  | 0 => by rw [if_neg (by omega)]; rfl
  | j + 1 => by
    rw [copyN, List.getElem?_set, copyN_length]
    by_cases h : t + j = i
    · subst h
      rw [if_pos rfl, if_pos (show t ≤ t + j ∧ t + j < t + (j + 1) by omega), show t + j - t = j by omega]
      by_cases h2 : t + j < ys.length
      · rw [if_pos h2, List.getElem?_eq_getElem h2]
        rfl
      · rw [if_neg h2, List.getElem?_eq_none (show ys.length ≤ t + j by omega)]
        rfl
    · rw [if_neg h, copyN_get ys old t f i j]
      by_cases h2 : t ≤ i ∧ i < t + j
      · rw [if_pos h2, if_pos (by omega)]
      · rw [if_neg h2, if_neg (by omega)]
theorem idx_sim {size : Int} {l : List PB} (F : Fit size l) (a : Int) : idxI (fun p => p.1 == a) (l.map shape) = if has l a = true then (below l a : Int) else -1 := by
  obtain ⟨b1, b2⟩ := below_spec F a
  by_cases h : has l a = true
  · rw [if_pos h]
    obtain ⟨x, hx, e⟩ := (has_iff F a).1 h
    refine idxI_some (shape_of hx) (by simpa [shape] using e) fun j y hj hy => ?_
    obtain ⟨z, hz, rfl⟩ := shape_get hy
    have := b1 j z hj hz
    simp only [shape, beq_eq_false_iff_ne, ne_eq]
    omega
  · rw [if_neg h]
    refine idxI_none fun j y hy => ?_
    obtain ⟨z, hz, rfl⟩ := shape_get hy
    simp only [shape, beq_eq_false_iff_ne, ne_eq]
    intro e
    exact h (by unfold has; rw [List.any_eq_true]; exact ⟨z, List.mem_of_getElem? hz, by simpa using e⟩)
theorem free_sim {size : Int} {l : List PB} (F : Fit size l) {a b : Int} (h0 : 0 ≤ a) : freeR (l.map shape) size a b (-1) = freeB size l a b (-1) := by
  rw [Bool.eq_iff_iff, freeR_iff]
  unfold freeB
  rw [Bool.and_eq_true, Bool.not_eq_true', Bool.not_eq_true', decide_eq_false_iff_not, List.any_eq_false]
  constructor
  · rintro ⟨-, h1, h2⟩
    refine ⟨by omega, fun x hx => ?_⟩
    obtain ⟨j, hj⟩ := List.getElem?_of_mem hx
    have := h2 j x.1 (x.2.length : Int) (shape_of hj) (by omega)
    unfold clash pend
    simp only [Bool.and_eq_true, decide_eq_true_eq]
    omega
  · rintro ⟨h1, h2⟩
    refine ⟨h0, by omega, fun j x y hp _ h => ?_⟩
    obtain ⟨z, hz, e⟩ := shape_get hp
    have hm := List.mem_of_getElem? hz
    have h3 := h2 z hm
    have h4 := F.inn z hm
    unfold clash pend at h3
    unfold shape at e
    cases e
    simp only [Bool.and_eq_true, decide_eq_true_eq] at h3
    exact h3 ⟨by omega, h.1, h.2⟩
theorem free_sim2 {size : Int} {l : List PB} (F : Fit size l) {k : Nat} {x : PB} (hx : l[k]? = some x) {n : Int} (hn : (x.2.length : Int) < n) : freeR (l.map shape) size (x.1 + (x.2.length : Int)) (x.1 + n) (k : Int) = freeB size l x.1 (x.1 + n) x.1 := by
  have hin := F.inn x (List.mem_of_getElem? hx)
  have hp : pend x = x.1 + (x.2.length : Int) := rfl
  rw [Bool.eq_iff_iff, freeR_iff]
  unfold freeB
  rw [Bool.and_eq_true, Bool.not_eq_true', Bool.not_eq_true', decide_eq_false_iff_not, List.any_eq_false]
  constructor
  · rintro ⟨-, h1, h2⟩
    refine ⟨by omega, fun z hz => ?_⟩
    obtain ⟨j, hj⟩ := List.getElem?_of_mem hz
    unfold clash
    simp only [Bool.and_eq_true, decide_eq_true_eq]
    rintro ⟨e1, e2, e3⟩
    have hzi := F.inn z hz
    have hpz : pend z = z.1 + (z.2.length : Int) := rfl
    have hjk : j ≠ k := fun e => by
      rw [e, hx] at hj
      cases hj
      exact e1 rfl
    have h3 := h2 j z.1 (z.2.length : Int) (shape_of hj) (by omega)
    rcases Nat.lt_or_gt_of_ne hjk with h | h
    · have := (F.lt hj hx h).2
      omega
    · have := (F.lt hx hj h).2
      omega
  · rintro ⟨h1, h2⟩
    refine ⟨by omega, by omega, fun j a b hp2 hne h => ?_⟩
    obtain ⟨z, hz, e⟩ := shape_get hp2
    have hm := List.mem_of_getElem? hz
    have h3 := h2 z hm
    have hzi := F.inn z hm
    have hpz : pend z = z.1 + (z.2.length : Int) := rfl
    unfold shape at e
    cases e
    unfold clash at h3
    simp only [Bool.and_eq_true, decide_eq_true_eq] at h3
    have hjk : j ≠ k := fun e => hne (by omega)
    rcases Nat.lt_or_gt_of_ne hjk with h' | h'
    · have := (F.lt hz hx h').2
      omega
    · have := (F.lt hx hz h')
      exact h3 ⟨by omega, h.1, by omega⟩
theorem scanF_congr {p q : Int → Bool} {lim step : Int} (D : Int → Prop) (hs : ∀ a, D a → D (a + step)) (h : ∀ a, D a → a ≤ lim → p a = q a) : ∀ (f : Nat) (a : Int), D a → scanF p lim step f a = scanF q lim step f a
  | 0, _, _ => rfl
  | f + 1, a, hd => by
    rw [scanF, scanF]
    by_cases hl : lim < a
    · rw [if_pos hl, if_pos hl]
    · rw [if_neg hl, if_neg hl, h a hd (by omega), scanF_congr D hs h f _ (hs a hd)]
theorem scanF_none {p : Int → Bool} {lim step : Int} (h : ∀ a, p a = false) : ∀ (f : Nat) (a : Int), scanF p lim step f a = none
  | 0, _ => rfl
  | f + 1, a => by
    rw [scanF, h a, scanF_none h f]
    simp
theorem mod_near {P a b : Int} (hP : 1 ≤ P) (ha : a % P = 0) (hb : b % P = 0) (h1 : a < b + P) (h2 : b < a + P) : a = b := by
  have e1 : (a - b) % P = 0 := by rw [Int.sub_emod, ha, hb]; simp
  have e2 : (b - a) % P = 0 := by rw [Int.sub_emod, ha, hb]; simp
  rcases Int.le_total b a with h | h
  · rw [Int.emod_eq_of_lt (by omega) (by omega)] at e1
    omega
  · rw [Int.emod_eq_of_lt (by omega) (by omega)] at e2
    omega
theorem room_sim {m : HM} {r : RM} (S : Sim m r) (I : Inv m) {n al : Int} (hn : 1 ≤ n) (hal : 1 ≤ al) : roomR r n al = roomM m n al := by
  unfold roomR roomM
  rw [S.kind, S.size, S.piece]
  have hk := I.kind
  by_cases h12 : m.kind = 1 ∨ m.kind = 2
  · rw [if_pos h12, if_neg (show ¬ m.kind = 0 by omega), if_neg (show ¬ m.kind = 3 by omega), S.top]
    unfold markM
    rw [if_pos h12]
  rw [if_neg h12]
  by_cases h3 : m.kind = 3
  · rw [if_pos h3, if_neg (show ¬ m.kind = 0 by omega), if_pos h3]
    have hp := I.piece h3
    by_cases hnp : n ≤ m.piece
    · rw [if_pos hnp]
      refine scanF_congr (fun a => 0 ≤ a ∧ a % m.piece = 0) (fun a h => ⟨by omega, by rw [Int.add_emod, h.2, Int.emod_self]; rfl⟩) (fun a hd hl => ?_) _ _ ⟨Int.le_refl _, Int.zero_emod _⟩
      unfold plR poolP
      rw [S.bl, S.piece]
      unfold stretches
      rw [idx_sim I.fit a, decide_eq_true hnp, Bool.and_true, Bool.and_comm]
      congr 1
      rw [Bool.eq_iff_iff, decide_eq_true_eq]
      unfold freeB
      rw [Bool.and_eq_true, Bool.not_eq_true', Bool.not_eq_true', decide_eq_false_iff_not, List.any_eq_false]
      constructor
      · intro h
        have hh : ¬ has m.live a = true := fun e => by rw [if_pos e] at h; omega
        refine ⟨by omega, fun x hx hc => hh ?_⟩
        unfold clash at hc
        simp only [Bool.and_eq_true, decide_eq_true_eq] at hc
        have h1 := I.pool h3 x hx
        have h2 : pend x = x.1 + (x.2.length : Int) := rfl
        have e := mod_near hp.1 hd.2 h1.1 (by omega) (by omega)
        unfold has
        rw [List.any_eq_true]
        exact ⟨x, hx, by simpa using e.symm⟩
      · rintro ⟨h1, h2⟩
        rw [if_neg]
        · omega
        · intro hh
          unfold has at hh
          obtain ⟨x, hx, e⟩ := List.any_eq_true.1 hh
          have e : x.1 = a := by simpa using e
          have h4 := I.fit.inn x hx
          refine h2 x hx ?_
          unfold clash pend
          simp only [Bool.and_eq_true, decide_eq_true_eq]
          omega
    · rw [if_neg hnp]
      exact scanF_none (fun a => by unfold plR; rw [S.piece, decide_eq_false hnp, Bool.and_false, Bool.false_and]) _ _
  rw [if_neg h3, if_pos (show m.kind = 0 by omega)]
  refine scanF_congr (fun a => 0 ≤ a) (fun a h => by omega) (fun a hd _ => ?_) _ _ (Int.le_refl _)
  unfold ffR ffP
  rw [S.bl, S.size]
  exact free_sim I.fit hd
theorem stays_sim {m : HM} {r : RM} (S : Sim m r) (I : Inv m) {k : Nat} {x : PB} (hx : m.live[k]? = some x) (n : Int) : staysR r k x.1 (x.2.length : Int) n = staysM m x n := by
  unfold staysR staysM
  rw [S.kind, S.size, S.piece, S.bl]
  by_cases hle : n ≤ (x.2.length : Int)
  · rw [if_pos hle, decide_eq_true hle, Bool.true_or]
  rw [if_neg hle, decide_eq_false hle, Bool.false_or]
  by_cases h0 : m.kind = 0
  · rw [if_pos h0, if_pos h0]
    exact free_sim2 I.fit hx (by omega)
  rw [if_neg h0, if_neg h0]
  by_cases h3 : m.kind = 3
  · rw [if_pos h3, if_pos h3]
  rw [if_neg h3, if_neg h3, S.top]
  unfold markM
  rw [if_pos (by have := I.kind; omega)]
  rfl
theorem Sim.count {m : HM} {r : RM} (S : Sim m r) : Sim (countM m) (countR r).1 :=
  ⟨S.kind, S.size, S.piece, S.pc, S.bl, S.ysl, S.ys, S.und, S.top, S.peak, by show r.calls + 1 = m.calls + 1; rw [S.calls], by
    show (if r.fail = 0 then 0 else r.fail - 1) = (if m.failIn = 0 then 0 else m.failIn - 1)
    rw [S.fail]⟩
theorem Sim.fails {m : HM} {r : RM} (S : Sim m r) : (countR r).2 = decide (m.failIn = 1) := by
  show decide (r.fail = 1) = _
  rw [S.fail]
theorem Sim.note {m : HM} {r : RM} (S : Sim m r) : Sim (noteM m) (peakR r) :=
  ⟨S.kind, S.size, S.piece, S.pc, S.bl, S.ysl, S.ys, S.und, S.top, by
    show max r.peak (sumS r.bl) = max m.peak (used m.live)
    rw [S.peak, S.bl]
    unfold stretches
    rw [sumS_used], S.calls, S.fail⟩
theorem ins_sim {size : Int} {l : List PB} (F : Fit size l) {p : PB} (hne : ∀ y ∈ l, y.1 ≠ p.1) : insR (l.map shape) (shape p) = (insAt l (below l p.1) [p]).map shape := by
  obtain ⟨b1, b2⟩ := below_spec F p.1
  unfold insAt
  rw [List.map_append, List.map_append]
  have hb := below_le l p.1
  rcases Nat.lt_or_ge (below l p.1) l.length with h | h
  · have hq := List.getElem?_eq_getElem h
    have hq2 := b2 _ _ (Nat.le_refl _) hq
    have hq3 := hne _ (List.mem_of_getElem? hq)
    rw [insR_at (l.map shape) (below l p.1) (shape p) (shape l[below l p.1]) (fun j q hj hq' => ?_) (shape_of hq) (by unfold shape; dsimp only; omega), List.map_take, List.map_drop]
    · rfl
    · obtain ⟨z, hz, rfl⟩ := shape_get hq'
      have := b1 j z hj hz
      unfold shape
      dsimp only
      omega
  · rw [insR_end (l.map shape) (shape p) (fun j q hq' => ?_), List.take_of_length_le (by omega), List.drop_eq_nil_of_le (by omega)]
    · rfl
    · obtain ⟨z, hz, rfl⟩ := shape_get hq'
      have := b1 j z (by have := (List.getElem?_eq_some_iff.1 hz).1; omega) hz
      unfold shape
      dsimp only
      omega
/-- one more block -/
theorem put_sim {m : HM} {r : RM} (S : Sim m r) (I : Inv m) {a n : Int} {bs : List Int} (hb : (bs.length : Int) = n) (hn : 1 ≤ n) (h0 : 0 ≤ a) (hap : ∀ y ∈ m.live, a + n ≤ y.1 ∨ pend y ≤ a) {Y : List Int} (hl : Y.length = r.ys.length)
    (hin : ∀ (j : Nat) (v : Int), bs[j]? = some v → Y[a.toNat + j]? = some v) (hout : ∀ i : Nat, (i : Int) < a ∨ a + n ≤ i → Y[i]? = r.ys[i]?) (hu : ∀ v ∈ bs, -1 ≤ v) : Sim (putM m (a, bs)) { putR r a n with ys := Y } := by
  have hp : pend (a, bs) = a + n := by unfold pend; dsimp only; omega
  refine ⟨S.kind, S.size, S.piece, S.pc, ?_, hl.trans S.ysl, fun x hx j v hv => ?_, fun x hx => ?_, ?_, S.peak, S.calls, S.fail⟩
  · show insR r.bl (a, n) = (insAt m.live (below m.live a) [(a, bs)]).map shape
    rw [S.bl]
    have := ins_sim I.fit (p := (a, bs)) (fun y hy e => by
      have h1 := hap y hy
      have h2 := I.fit.inn y hy
      have h3 : pend y = y.1 + (y.2.length : Int) := rfl
      dsimp only at e
      omega)
    rw [← this]
    show insR _ (a, n) = insR _ (a, (bs.length : Int))
    rw [hb]
    rfl
  · rcases insAt_mem.1 hx with rfl | hx
    · exact hin j v hv
    · have h1 := hap x hx
      have h2 := I.fit.inn x hx
      have h3 : pend x = x.1 + (x.2.length : Int) := rfl
      have h4 := (List.getElem?_eq_some_iff.1 hv).1
      show Y[x.1.toNat + j]? = some v
      rw [hout _ (by omega)]
      exact S.ys x hx j v hv
  · rcases insAt_mem.1 hx with rfl | hx
    · exact hu
    · exact S.und x hx
  · show (if r.kind = 1 ∨ r.kind = 2 then a + n else r.top) = if m.kind = 1 ∨ m.kind = 2 then takenM m (a, bs) else 0
    rw [S.kind, S.top]
    unfold takenM markM
    by_cases h : m.kind = 1 ∨ m.kind = 2
    · rw [if_pos h, if_pos h, if_pos h, hp]
    · rw [if_neg h, if_neg h, if_neg h]
theorem take_sim {m : HM} {r : RM} (S : Sim m r) (F : Fit m.size m.live) {k : Nat} {x : PB} (hx : m.live[k]? = some x) : Sim (takeM m k x) (goneR r k x.1) := by
  have hk := (List.getElem?_eq_some_iff.1 hx).1
  refine ⟨S.kind, S.size, S.piece, S.pc, ?_, S.ysl, fun y hy => S.ys y (delAt_mem hy), fun y hy => S.und y (delAt_mem hy), ?_, S.peak, S.calls, S.fail⟩
  · show r.bl.eraseIdx k = (delAt m.live k 1).map shape
    rw [S.bl]
    unfold stretches delAt
    rw [List.eraseIdx_eq_take_drop_succ, List.map_append, List.map_take, List.map_drop]
  · show (if r.kind = 2 ∧ k + 1 = r.bl.length then x.1 else r.top) = if m.kind = 1 ∨ m.kind = 2 then goneM (cutM m k) x else 0
    rw [S.kind, S.top, S.bl, str_len]
    unfold markM goneM
    show _ = if m.kind = 1 ∨ m.kind = 2 then (if m.kind = 2 ∧ ((delAt m.live k 1).any fun y => decide (x.1 < y.1)) = false then x.1 else m.top) else 0
    have key : k + 1 = m.live.length ↔ ((delAt m.live k 1).any fun y => decide (x.1 < y.1)) = false := by
      rw [List.any_eq_false]
      constructor
      · intro h y hy
        obtain ⟨j, hj⟩ := List.getElem?_of_mem hy
        rw [delAt_get _ _ _ (by omega)] at hj
        split at hj
        · have := (F.lt hj hx (by omega)).1
          simp
          omega
        · have := (List.getElem?_eq_some_iff.1 hj).1
          omega
      · intro h
        rcases Nat.lt_or_ge (k + 1) m.live.length with h1 | h1
        · have h2 := List.getElem?_eq_getElem h1
          have h3 : (delAt m.live k 1)[k]? = some m.live[k + 1] := by
            rw [delAt_get _ _ _ (by omega), if_neg (by omega)]
            exact h2
          have h4 := h _ (List.mem_of_getElem? h3)
          have h5 := (F.lt hx h2 (by omega)).1
          simp at h4
          omega
        · omega
    by_cases h2 : m.kind = 2
    · by_cases h : k + 1 = m.live.length
      · rw [if_pos ⟨h2, h⟩, if_pos (.inr h2), if_pos ⟨h2, key.1 h⟩]
      · rw [if_neg (fun e => h e.2), if_pos (.inr h2), if_pos (.inr h2), if_neg (fun e => h (key.2 e.2))]
    · rw [if_neg (fun e => h2 e.1), if_neg (fun e : m.kind = 2 ∧ _ => h2 e.1)]
theorem und_undefs (n : Nat) : ∀ v ∈ undefs n, (-1 : Int) ≤ v := fun v hv => by
  unfold undefs at hv
  rw [List.eq_of_mem_replicate hv]
  exact Int.le_refl _
theorem alloc_sim {m : HM} {r : RM} (S : Sim m r) (I : Inv m) (n al : Int) : (allocM m n al).2 = (rallocM r n al).2 ∧ Sim (allocM m n al).1 (rallocM r n al).1 := by
  unfold allocM rallocM sizeB
  by_cases h1 : (decide (1 ≤ n) && decide (n ≤ 4096) && alignB al) = false
  · rw [if_pos h1, if_pos h1]
    exact ⟨rfl, S⟩
  rw [if_neg h1, if_neg h1]
  have hnal : 1 ≤ n ∧ 1 ≤ al := by
    unfold alignB at h1
    simp at h1
    omega
  have hiff : (m.failIn = 1 ∨ m.live.length = 64) ↔ ((countR r).2 = true ∨ 64 ≤ r.bl.length) := by
    rw [S.fails, decide_eq_true_eq, S.bl, str_len]
    have := I.len
    omega
  by_cases h2 : m.failIn = 1 ∨ m.live.length = 64
  · rw [if_pos h2, if_pos (hiff.1 h2)]
    exact ⟨rfl, S.count⟩
  rw [if_neg h2, if_neg (fun e => h2 (hiff.2 e)), room_sim S.count I.count hnal.1 hnal.2]
  cases hr : roomM (countM m) n al with
  | none => exact ⟨rfl, S.count⟩
  | some a =>
    obtain ⟨g1, g2, g3, -⟩ := room_spec I.count hnal.1 hnal.2 hr
    refine ⟨rfl, Sim.note ?_⟩
    refine put_sim S.count I.count (by rw [undefs_len]; omega) hnal.1 g1 g3 (setN_length _ _ _ _) (fun j v hv => ?_) (fun i hi => ?_) (und_undefs _)
    · have hj := (List.getElem?_eq_some_iff.1 hv).1
      rw [undefs_len] at hj
      have e : v = -1 := by
        have := List.mem_of_getElem? hv
        unfold undefs at this
        exact List.eq_of_mem_replicate this
      have hsz : (countR r).1.ys.length = m.size.toNat := S.ysl
      have g2 : a + n ≤ m.size := g2
      show (setN (countR r).1.ys a.toNat (-1) ((a + n).toNat - a.toNat))[a.toNat + j]? = some v
      rw [setN_get, if_pos (by omega), List.getElem?_eq_getElem (by omega), e]
      rfl
    · show (setN (countR r).1.ys a.toNat (-1) ((a + n).toNat - a.toNat))[i]? = _
      rw [setN_get, if_neg (by omega)]
theorem free_sim3 {m : HM} {r : RM} (S : Sim m r) (I : Inv m) (at_ : Int) : (freeM m at_).2 = (freeMR r at_).2 ∧ Sim (freeM m at_).1 (freeMR r at_).1 := by
  unfold freeM freeMR
  rw [S.bl]
  unfold stretches
  rw [idx_sim I.fit at_]
  cases hh : has m.live at_
  · rw [if_pos rfl, if_neg (show ¬ false = true by decide), if_pos (show (-1 : Int) < 0 by decide)]
    exact ⟨rfl, S⟩
  · obtain ⟨x, hx, e, hat⟩ := at_eq I.fit hh
    rw [if_neg (show ¬ true = false by decide), if_pos rfl, if_neg (show ¬ ((below m.live at_ : Nat) : Int) < 0 by omega), Int.toNat_natCast, shape_of hx, Option.getD_some, hat]
    exact ⟨rfl, take_sim S I.fit hx⟩
end Go.Proofs.YtegpkcbmgjoicaaGreat

namespace Go.Proofs.YtegpkcbmgjoicaaGreat
open Go.RowKit HP
set_option linter.unusedVariables false
theorem keptL_get {x : List Int} {n j : Nat} {v : Int} (h : (keptL x n)[j]? = some v) : j < n ∧ ((j < x.length ∧ x[j]? = some v) ∨ (x.length ≤ j ∧ v = -1)) := by
  have hj := (List.getElem?_eq_some_iff.1 h).1
  rw [keptL_len] at hj
  refine ⟨hj, ?_⟩
  unfold keptL at h
  by_cases hl : j < x.length
  · rw [List.getElem?_append_left (by rw [List.length_take]; omega), List.getElem?_take, if_pos hj] at h
    exact .inl ⟨hl, h⟩
  · rw [List.getElem?_append_right (by rw [List.length_take]; omega)] at h
    refine .inr ⟨by omega, ?_⟩
    have := List.mem_of_getElem? h
    unfold undefs at this
    exact List.eq_of_mem_replicate this
theorem und_kept {x : List Int} (h : ∀ v ∈ x, -1 ≤ v) (n : Nat) : ∀ v ∈ keptL x n, -1 ≤ v := fun v hv => by
  unfold keptL at hv
  rcases List.mem_append.1 hv with hv | hv
  · exact h v (List.mem_of_mem_take hv)
  · exact und_undefs _ v hv
theorem mem_set_idx {α : Type} {l : List α} {k : Nat} {x' y : α} (h : y ∈ l.set k x') : y = x' ∨ ∃ j, j ≠ k ∧ l[j]? = some y := by
  obtain ⟨j, hj⟩ := List.getElem?_of_mem h
  rw [List.getElem?_set] at hj
  by_cases e : k = j
  · rw [if_pos e] at hj
    split at hj
    · cases hj; exact .inl rfl
    · cases hj
  · rw [if_neg e] at hj
    exact .inr ⟨j, fun e' => e e'.symm, hj⟩
theorem grow_sim {m : HM} {r : RM} (S : Sim m r) (I : Inv m) {k : Nat} {x : PB} (hx : m.live[k]? = some x) {n : Nat} (hn : 1 ≤ n) (hs : staysM m x n = true) :
    Sim (growM m k x n) (setR (growR r k x.1 (x.2.length : Int) n) (x.1 + min (n : Int) (x.2.length : Int)).toNat (x.1 + n).toNat (-1)) := by
  obtain ⟨g1, g2, -⟩ := stays_spec I hx hn hs
  have hm := List.mem_of_getElem? hx
  have hin := I.fit.inn x hm
  have hp : pend x = x.1 + (x.2.length : Int) := rfl
  refine ⟨S.kind, S.size, S.piece, S.pc, ?_, (setN_length _ _ _ _).trans S.ysl, fun y hy j v hv => ?_, fun y hy => ?_, ?_, S.peak, S.calls, S.fail⟩
  · show r.bl.set k (x.1, (n : Int)) = (m.live.set k (x.1, keptL x.2 n)).map shape
    rw [S.bl, List.map_set]
    unfold stretches shape
    dsimp only
    rw [keptL_len]
  · show (setN r.ys _ (-1) _)[y.1.toNat + j]? = some v
    rw [setN_get]
    rcases mem_set_idx hy with rfl | ⟨i, hik, hi⟩
    · obtain ⟨hj, h⟩ := keptL_get hv
      dsimp only
      rcases h with ⟨hl, h⟩ | ⟨hl, h⟩
      · rw [if_neg (by omega)]
        exact S.ys x hm j v h
      · rw [if_pos (by omega), List.getElem?_eq_getElem (by have := S.ysl; omega), h]
        rfl
    · have hyi := I.fit.inn y (List.mem_of_getElem? hi)
      have hpy : pend y = y.1 + (y.2.length : Int) := rfl
      have hjl := (List.getElem?_eq_some_iff.1 hv).1
      have hap : pend y ≤ x.1 ∨ x.1 + n ≤ y.1 := by
        rcases Nat.lt_or_gt_of_ne hik with h | h
        · exact .inl (I.fit.lt hi hx h).2
        · exact .inr (g2 i y h hi)
      rw [if_neg (by omega)]
      exact S.ys y (List.mem_of_getElem? hi) j v hv
  · rcases mem_set_idx hy with rfl | ⟨i, hik, hi⟩
    · exact und_kept (S.und x hm) n
    · exact S.und y (List.mem_of_getElem? hi)
  · show (if (r.kind = 1 ∨ r.kind = 2) ∧ x.1 + (x.2.length : Int) = r.top then x.1 + (n : Int) else r.top) = if m.kind = 1 ∨ m.kind = 2 then (if pend x = markM m then takenM m (x.1, keptL x.2 n) else m.top) else 0
    rw [S.kind, S.top]
    unfold takenM markM
    by_cases h : m.kind = 1 ∨ m.kind = 2
    · rw [if_pos h, if_pos h, if_pos h]
      by_cases h2 : pend x = m.top
      · rw [if_pos ⟨h, h2⟩, if_pos h2]
        unfold pend
        dsimp only
        rw [keptL_len]
      · rw [if_neg (fun e => h2 e.2), if_neg h2]
    · rw [if_neg h, if_neg (fun e => h e.1), if_neg h]
theorem move_sim {m : HM} {r : RM} (S : Sim m r) (I : Inv m) {x : PB} (hx : x ∈ m.live) {n : Nat} (hn : 1 ≤ n) {al to_ : Int} (hal : 1 ≤ al) (hr : roomM m (n : Int) al = some to_) :
    Sim (moveM m x to_ n) (goneR (movedR r to_ x.1 (x.2.length : Int) n) (idxI (fun p => p.1 == x.1) (movedR r to_ x.1 (x.2.length : Int) n).bl).toNat x.1) := by
  obtain ⟨g1, g2, g3, -⟩ := room_spec I (by omega) hal hr
  obtain ⟨-, hF, hat, -, -⟩ := I.move hx hal hn hr
  have hin := I.fit.inn x hx
  have hp : pend x = x.1 + (x.2.length : Int) := rfl
  have S2 : Sim (putM m (to_, keptL x.2 n)) (movedR r to_ x.1 (x.2.length : Int) n) := by
    have hsz := S.ysl
    refine put_sim S I (n := (n : Int)) (by rw [keptL_len]) (by omega) g1 g3 ((copyN_length _ _ _ _ _).trans (setN_length _ _ _ _)) (fun j v hv => ?_) (fun i hi => ?_) (und_kept (S.und x hx) n)
    · obtain ⟨hj, h⟩ := keptL_get hv
      show (copyN (setN r.ys to_.toNat (-1) ((to_ + (n : Int)).toNat - to_.toNat)) r.ys to_.toNat x.1.toNat (min (n : Int) (x.2.length : Int)).toNat)[to_.toNat + j]? = some v
      rw [copyN_get, setN_get, if_pos (show to_.toNat ≤ to_.toNat + j ∧ to_.toNat + j < to_.toNat + ((to_ + (n : Int)).toNat - to_.toNat) by omega), List.getElem?_eq_getElem (show to_.toNat + j < r.ys.length by omega)]
      rcases h with ⟨hl, h⟩ | ⟨hl, h⟩
      · rw [if_pos (by omega), show x.1.toNat + (to_.toNat + j - to_.toNat) = x.1.toNat + j by omega, S.ys x hx j v h]
        rfl
      · rw [if_neg (by omega)]
        subst h
        rfl
    · show (copyN (setN r.ys to_.toNat (-1) ((to_ + (n : Int)).toNat - to_.toNat)) r.ys to_.toNat x.1.toNat (min (n : Int) (x.2.length : Int)).toNat)[i]? = _
      rw [copyN_get, setN_get, if_neg (by omega), if_neg (by omega)]
  have hF2 : Fit (putM m (to_, keptL x.2 n)).size (putM m (to_, keptL x.2 n)).live := hF
  have hh : has (putM m (to_, keptL x.2 n)).live x.1 = true := (has_iff hF x.1).2 ⟨x, hat, rfl⟩
  have hi : idxI (fun p => p.1 == x.1) (movedR r to_ x.1 (x.2.length : Int) n).bl = ((below (putM m (to_, keptL x.2 n)).live x.1 : Nat) : Int) := by
    rw [S2.bl]
    unfold stretches
    rw [idx_sim hF x.1, if_pos hh]
  rw [hi, Int.toNat_natCast]
  exact take_sim S2 hF2 hat
theorem resize_sim {m : HM} {r : RM} (S : Sim m r) (I : Inv m) (at_ z : Int) : (resizeM m at_ z).2 = (rresizeM r at_ z).2 ∧ Sim (resizeM m at_ z).1 (rresizeM r at_ z).1 := by
  unfold resizeM rresizeM sizeB
  by_cases h1 : (decide (1 ≤ z) && decide (z ≤ 4096)) = false
  · rw [if_pos h1, if_pos h1]
    exact ⟨rfl, S⟩
  rw [if_neg h1, if_neg h1]
  have hi : idxI (fun p => p.1 == at_) r.bl = if has m.live at_ = true then ((below m.live at_ : Nat) : Int) else -1 := by
    rw [S.bl]
    unfold stretches
    exact idx_sim I.fit at_
  rw [hi]
  cases hh : has m.live at_
  · rw [if_pos rfl, if_neg (show ¬ false = true by decide), if_pos (show (-1 : Int) < 0 by decide)]
    exact ⟨rfl, S⟩
  rw [if_neg (show ¬ true = false by decide), if_pos rfl, if_neg (show ¬ ((below m.live at_ : Nat) : Int) < 0 by omega), S.fails]
  by_cases h2 : m.failIn = 1
  · rw [if_pos h2, if_pos (show decide (m.failIn = 1) = true from decide_eq_true h2)]
    exact ⟨rfl, S.count⟩
  rw [if_neg h2, if_neg (show ¬ decide (m.failIn = 1) = true by rw [decide_eq_false h2]; decide)]
  obtain ⟨x, hx, hxa, hat⟩ := at_eq I.fit hh
  have hz12 : 1 ≤ z ∧ z ≤ 4096 := by simpa using h1
  obtain ⟨n, rfl⟩ : ∃ n : Nat, z = (n : Int) := ⟨z.toNat, by omega⟩
  have hb : r.bl[below m.live at_]? = some (shape x) := by
    rw [S.bl]
    exact shape_of hx
  rw [hat, Int.toNat_natCast, Int.toNat_natCast, hb, Option.getD_some]
  unfold rsizedM
  have hs := stays_sim S.count I.count (k := below m.live at_) (x := x) hx (n : Int)
  have hs : staysR (countR r).1 (below m.live at_) (shape x).1 (shape x).2 (n : Int) = staysM (countM m) x (n : Int) := hs
  rw [hs]
  by_cases h3 : staysM (countM m) x (n : Int) = true
  · rw [if_pos h3, if_pos h3]
    refine ⟨by rw [← hxa]; rfl, Sim.note ?_⟩
    exact grow_sim S.count I.count hx (by omega) h3
  rw [if_neg h3, if_neg h3]
  have hro := room_sim S.count I.count (n := (n : Int)) (al := alignOfM x.1) (by omega) (alignOfM_pos x.1).1
  have hro : roomR (countR r).1 (n : Int) (alignOfM (shape x).1) = roomM (countM m) (n : Int) (alignOfM at_) := by rw [← hxa]; exact hro
  rw [hro]
  cases hr : roomM (countM m) (n : Int) (alignOfM at_) with
  | none => exact ⟨rfl, S.count⟩
  | some t =>
    refine ⟨rfl, Sim.note ?_⟩
    exact move_sim S.count I.count (List.mem_of_getElem? hx) (by omega) (alignOfM_pos at_).1 hr
theorem live_sim {m : HM} {r : RM} (S : Sim m r) (at_ : Int) : liveR r.bl at_ = m.live.any (inB at_) := by
  rw [Bool.eq_iff_iff, liveR_iff, List.any_eq_true, S.bl]
  unfold stretches
  constructor
  · rintro ⟨p, hp, h⟩
    obtain ⟨x, hx, rfl⟩ := List.mem_map.1 hp
    exact ⟨x, hx, inB_iff.2 h⟩
  · rintro ⟨x, hx, h⟩
    exact ⟨shape x, List.mem_map.2 ⟨x, hx, rfl⟩, inB_iff.1 h⟩
theorem store_sim {m : HM} {r : RM} (S : Sim m r) (I : Inv m) (at_ b : Int) : (storeM m at_ b).2 = (storeMR r at_ b).2 ∧ Sim (storeM m at_ b).1 (storeMR r at_ b).1 := by
  by_cases hb : 0 ≤ b ∧ b ≤ 255
  · have hb2 : ¬ (decide (0 ≤ b) && decide (b ≤ 255)) = false := by simpa using hb
    unfold storeMR
    rw [if_neg hb2, live_sim S]
    cases hf : m.live.findIdx? (inB at_) with
    | none =>
      rw [storeM_none hb hf, if_pos]
      · exact ⟨rfl, S⟩
      · rw [List.any_eq_false]
        intro x hx
        have := List.findIdx?_eq_none_iff.1 hf x hx
        rw [this]
        decide
    | some k =>
      obtain ⟨x, hx, hp⟩ := find_some hf
      have hm := List.mem_of_getElem? hx
      rw [storeM_some hb hf hx, if_neg (by rw [Bool.not_eq_false, List.any_eq_true]; exact ⟨x, hm, hp⟩)]
      have hi := inB_iff.1 hp
      have hin := I.fit.inn x hm
      have hpx : pend x = x.1 + (x.2.length : Int) := rfl
      refine ⟨rfl, ⟨S.kind, S.size, S.piece, S.pc, ?_, (setN_length _ _ _ _).trans S.ysl, fun y hy j v hv => ?_, fun y hy => ?_, S.top, S.peak, S.calls, S.fail⟩⟩
      · show r.bl = (m.live.set k _).map shape
        rw [S.bl, List.map_set]
        unfold stretches
        refine (List.ext_getElem? fun i => ?_)
        rw [List.getElem?_set]
        by_cases e : k = i
        · subst e
          rw [if_pos rfl, shape_of hx, if_pos (by rw [List.length_map]; exact (List.getElem?_eq_some_iff.1 hx).1)]
          unfold shape putB
          dsimp only
          rw [List.length_set]
        · rw [if_neg e]
      · show (setN r.ys at_.toNat b (at_.toNat + 1 - at_.toNat))[y.1.toNat + j]? = some v
        rw [setN_get]
        rcases mem_set_idx hy with rfl | ⟨i, hik, hiy⟩
        · unfold putB at hv ⊢
          dsimp only at hv ⊢
          rw [List.getElem?_set] at hv
          by_cases e : (at_ - x.1).toNat = j
          · rw [if_pos e] at hv
            split at hv
            · cases hv
              rw [if_pos (by omega), List.getElem?_eq_getElem (by have := S.ysl; omega)]
              rfl
            · cases hv
          · rw [if_neg e] at hv
            have hj := (List.getElem?_eq_some_iff.1 hv).1
            rw [if_neg (by omega)]
            exact S.ys x hm j v hv
        · have hyi := I.fit.inn y (List.mem_of_getElem? hiy)
          have hpy : pend y = y.1 + (y.2.length : Int) := rfl
          have hjl := (List.getElem?_eq_some_iff.1 hv).1
          have hap : pend y ≤ x.1 ∨ pend x ≤ y.1 := by
            rcases Nat.lt_or_gt_of_ne hik with h | h
            · exact .inl (I.fit.lt hiy hx h).2
            · exact .inr (I.fit.lt hx hiy h).2
          rw [if_neg (by omega)]
          exact S.ys y (List.mem_of_getElem? hiy) j v hv
      · rcases mem_set_idx hy with rfl | ⟨i, hik, hiy⟩
        · intro v hv
          unfold putB at hv
          rcases List.mem_or_eq_of_mem_set hv with hv | rfl
          · exact S.und x hm v hv
          · omega
        · exact S.und y (List.mem_of_getElem? hiy)
  · have hb2 : (decide (0 ≤ b) && decide (b ≤ 255)) = false := by
      rw [← Bool.not_eq_true]
      simpa using hb
    unfold storeM storeMR
    rw [if_neg hb, if_pos hb2]
    exact ⟨rfl, S⟩
theorem load_sim {m : HM} {r : RM} (S : Sim m r) (I : Inv m) (at_ : Int) : loadM m at_ = loadR r at_ := by
  unfold loadM loadR
  rw [live_sim S]
  cases hf : m.live.findIdx? (inB at_) with
  | none =>
    rw [if_pos]
    rw [List.any_eq_false]
    intro x hx
    have := List.findIdx?_eq_none_iff.1 hf x hx
    rw [this]
    decide
  | some k =>
    obtain ⟨x, hx, hp⟩ := find_some hf
    have hm := List.mem_of_getElem? hx
    obtain ⟨j, v, hj1, hj2, hj3, hv⟩ := inB_j hp
    have hin := I.fit.inn x hm
    have e := S.ys x hm j v hv
    have hu := S.und x hm v (List.mem_of_getElem? hv)
    rw [if_neg (by rw [Bool.not_eq_false, List.any_eq_true]; exact ⟨x, hm, hp⟩)]
    dsimp only
    rw [hx, Option.bind_some, hj2, hv, show at_.toNat = x.1.toNat + j by omega, e, Option.getD_some]
    dsimp only
    by_cases hv1 : v = -1
    · rw [if_pos hv1, if_pos (by omega)]
    · rw [if_neg hv1, if_neg (by omega)]
theorem act_sim {m : HM} {r : RM} (S : Sim m r) (I : Inv m) (op a b : Int) : (actM m op a b).2 = (ractM r op a b).2 ∧ Sim (actM m op a b).1 (ractM r op a b).1 := by
  unfold actM ractM
  by_cases h0 : op = 0
  · rw [if_pos h0, if_pos h0]
    exact alloc_sim S I a b
  rw [if_neg h0, if_neg h0]
  by_cases h1 : op = 1
  · rw [if_pos h1, if_pos h1]
    have := free_sim3 S I a
    exact ⟨by rw [this.1], this.2⟩
  rw [if_neg h1, if_neg h1]
  by_cases h2 : op = 2
  · rw [if_pos h2, if_pos h2]
    exact resize_sim S I a b
  rw [if_neg h2, if_neg h2]
  by_cases h3 : op = 3
  · rw [if_pos h3, if_pos h3]
    unfold resetM
    have hk := I.kind
    by_cases h : m.kind = 1 ∨ m.kind = 2
    · rw [if_pos h, if_neg (by rw [S.kind]; omega)]
      exact ⟨rfl, ⟨S.kind, S.size, S.piece, S.pc, rfl, S.ysl, (fun x hx => by cases hx), (fun x hx => by cases hx), by show (0 : Int) = if m.kind = 1 ∨ m.kind = 2 then 0 else 0; rw [if_pos h], S.peak, S.calls, S.fail⟩⟩
    · rw [if_neg h, if_pos (by rw [S.kind]; omega)]
      exact ⟨rfl, S⟩
  rw [if_neg h3, if_neg h3]
  by_cases h4 : op = 4
  · rw [if_pos h4, if_pos h4]
    unfold failAtM failR
    split
    · exact ⟨rfl, ⟨S.kind, S.size, S.piece, S.pc, S.bl, S.ysl, S.ys, S.und, S.top, S.peak, S.calls, rfl⟩⟩
    · exact ⟨rfl, S⟩
  rw [if_neg h4, if_neg h4]
  by_cases h5 : op = 5
  · rw [if_pos h5, if_pos h5]
    have := store_sim S I a b
    exact ⟨by rw [this.1], this.2⟩
  rw [if_neg h5, if_neg h5]
  by_cases h6 : op = 6
  · rw [if_pos h6, if_pos h6]
    exact ⟨load_sim S I a, S⟩
  rw [if_neg h6, if_neg h6]
  exact ⟨rfl, S⟩
theorem Sim.K {m : HM} {r : RM} (S : Sim m r) (I : Inv m) (hc : m.calls < 1000000) : RmK r := by
  have hsz := I.fit.sz
  have hlen := I.len
  have hN : RmN r := by
    refine ⟨by rw [S.size]; omega, by rw [S.piece]; exact S.pc, by rw [S.bl, str_len]; omega, by rw [S.size]; exact S.ysl, fun p hp => ?_, ?_, ?_, ?_, ?_⟩
    · rw [S.bl] at hp
      obtain ⟨x, hx, rfl⟩ := List.mem_map.1 hp
      have h1 := I.fit.inn x hx
      have h2 : pend x = x.1 + (x.2.length : Int) := rfl
      rw [S.size]
      unfold shape
      dsimp only
      omega
    · rw [S.top]
      unfold markM
      have := I.top
      split <;> omega
    · rw [S.peak]
      have := I.peak
      have := used_nonneg m.live
      omega
    · rw [S.calls]
      have := I.calls
      omega
    · rw [S.fail]
      exact I.failIn
  refine ⟨hN, by rw [S.kind]; exact I.kind, fun h => by rw [S.piece]; rw [S.kind] at h; exact (I.piece h).1, by rw [S.size]; omega, by rw [S.bl, str_len]; exact hlen, by rw [S.calls]; exact hc, fun j x y z hp hz hst => ?_⟩
  rw [S.bl] at hp
  obtain ⟨q, hq, e⟩ := shape_get hp
  have hz12 : 1 ≤ z ∧ z ≤ 4096 := by simpa using hz
  obtain ⟨n, rfl⟩ : ∃ n : Nat, z = (n : Int) := ⟨z.toNat, by omega⟩
  unfold shape at e
  cases e
  rw [stays_sim S.count I.count (k := j) (x := q) hq (n : Int)] at hst
  have := stays_spec I.count (k := j) (x := q) hq (n := n) (by omega) hst
  rw [S.size]
  exact this.1
theorem sim_new {kind size piece : Int} (h : shapeB kind size piece = true) : Sim (newM kind size piece) (newR kind size piece) := by
  have hp : 0 ≤ piece ∧ piece ≤ 4096 := by
    unfold shapeB at h
    simp only [Bool.and_eq_true, decide_eq_true_eq] at h
    obtain ⟨⟨⟨⟨h1, h2⟩, h3⟩, h4⟩, h5⟩ := h
    split at h5
    · simp only [Bool.and_eq_true, decide_eq_true_eq] at h5
      omega
    · have : piece = 0 := by simpa using h5
      omega
  refine ⟨rfl, rfl, rfl, hp, rfl, List.length_replicate .., (fun x hx => by cases hx), (fun x hx => by cases hx), ?_, rfl, rfl, rfl⟩
  show (0 : Int) = if kind = 1 ∨ kind = 2 then 0 else 0
  split <;> rfl
end Go.Proofs.YtegpkcbmgjoicaaGreat
