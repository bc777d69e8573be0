/- A byte that was stored stays, whatever else is done: plain. No program. Conditions: as each theorem says. -/
import Derived.Test.YtegpkcbmgjoicaaGreatHqV
namespace Go.Proofs.YtegpkcbmgjoicaaGreat
open Go.RowKit HP
set_option linter.unusedVariables false
/-- a live block that begins at bg has the byte b at a place -/
def Holds (m : HM) (bg at_ b : Int) : Prop := ∃ x ∈ m.live, x.1 = bg ∧ bg ≤ at_ ∧ at_ < pend x ∧ x.2[(at_ - bg).toNat]? = some b
theorem inB_iff {at_ : Int} {x : PB} : inB at_ x = true ↔ x.1 ≤ at_ ∧ at_ < pend x := by
  unfold inB
  rw [Bool.and_eq_true, decide_eq_true_eq, decide_eq_true_eq]
theorem inB_uniq {size : Int} {l : List PB} (F : Fit size l) {x y : PB} (hx : x ∈ l) (hy : y ∈ l) {at_ : Int} (h1 : inB at_ x = true) (h2 : inB at_ y = true) : x = y := by
  obtain ⟨i, hi, rfl⟩ := List.getElem_of_mem hx
  obtain ⟨j, hj, rfl⟩ := List.getElem_of_mem hy
  have e1 := inB_iff.1 h1
  have e2 := inB_iff.1 h2
  rcases Nat.lt_trichotomy i j with h | h | h
  · have := (F.lt (List.getElem?_eq_getElem hi) (List.getElem?_eq_getElem hj) h).2
    omega
  · subst h; rfl
  · have := (F.lt (List.getElem?_eq_getElem hj) (List.getElem?_eq_getElem hi) h).2
    omega
theorem find_some {l : List PB} {at_ : Int} {k : Nat} (h : l.findIdx? (inB at_) = some k) : ∃ x, l[k]? = some x ∧ inB at_ x = true := by
  obtain ⟨hk, hp, -⟩ := List.findIdx?_eq_some_iff_getElem.1 h
  exact ⟨l[k], List.getElem?_eq_getElem hk, hp⟩
theorem hold_load {m : HM} (I : Inv m) {bg at_ b : Int} (H : Holds m bg at_ b) (hb : 0 ≤ b) : loadM m at_ = (b, 0) := by
  obtain ⟨x, hx, hbg, h1, h2, h3⟩ := H
  have hin : inB at_ x = true := inB_iff.2 ⟨by omega, h2⟩
  unfold loadM
  cases hf : m.live.findIdx? (inB at_) with
  | none =>
    rw [List.findIdx?_eq_none_iff] at hf
    have := hf x hx
    rw [hin] at this
    cases this
  | some k =>
    obtain ⟨y, hy, hp⟩ := find_some hf
    have e := inB_uniq I.fit hx (List.mem_of_getElem? hy) hin hp
    subst e
    simp only
    rw [hy, Option.bind_some, hbg, h3]
    simp only
    rw [if_neg (by omega)]
theorem hold_store {m : HM} (I : Inv m) {at_ b : Int} (h : (storeM m at_ b).2 = 0) : (0 ≤ b ∧ b ≤ 255) ∧ ∃ bg, Holds (storeM m at_ b).1 bg at_ b := by
  by_cases hb : 0 ≤ b ∧ b ≤ 255
  · refine ⟨hb, ?_⟩
    cases hf : m.live.findIdx? (inB at_) with
    | none => rw [storeM_none hb hf] at h; cases h
    | some k =>
      obtain ⟨x, hx, hp⟩ := find_some hf
      rw [storeM_some hb hf hx]
      obtain ⟨j, v, hj1, hj2, hj3, hv⟩ := inB_j hp
      have hk := (List.getElem?_eq_some_iff.1 hx).1
      have e := inB_iff.1 hp
      refine ⟨x.1, putB x (at_ - x.1).toNat b, ?_, rfl, e.1, ?_, ?_⟩
      · show _ ∈ m.live.set k _
        exact List.mem_set hk _
      · unfold pend putB
        rw [List.length_set]
        exact e.2
      · show (x.2.set (at_ - x.1).toNat b)[(at_ - x.1).toNat]? = some b
        rw [hj2, List.getElem?_set_self hj3]
  · unfold storeM at h
    rw [if_neg hb] at h
    cases h
theorem mem_del {l : List PB} {k : Nat} {x z : PB} (hx : x ∈ l) (hz : l[k]? = some z) (hne : x ≠ z) : x ∈ delAt l k 1 := by
  obtain ⟨i, hi, rfl⟩ := List.getElem_of_mem hx
  have hk := (List.getElem?_eq_some_iff.1 hz).1
  have hik : i ≠ k := fun e => by
    subst e
    rw [List.getElem?_eq_getElem hi] at hz
    exact hne (Option.some.inj hz)
  rcases Nat.lt_or_gt_of_ne hik with h | h
  · refine List.mem_of_getElem? (i := i) ?_
    rw [delAt_get _ _ _ (by omega), if_pos h, List.getElem?_eq_getElem hi]
  · refine List.mem_of_getElem? (i := i - 1) ?_
    rw [delAt_get _ _ _ (by omega), if_neg (by omega), show i - 1 + 1 = i by omega, List.getElem?_eq_getElem hi]
theorem mem_set_ne {l : List PB} {k : Nat} {x z z' : PB} (hx : x ∈ l) (hz : l[k]? = some z) (hne : x ≠ z) : x ∈ l.set k z' := by
  obtain ⟨i, hi, rfl⟩ := List.getElem_of_mem hx
  have hik : k ≠ i := fun e => by
    subst e
    rw [List.getElem?_eq_getElem hi] at hz
    exact hne (Option.some.inj hz)
  refine List.mem_of_getElem? (i := i) ?_
  rw [List.getElem?_set_ne hik, List.getElem?_eq_getElem hi]
theorem Holds.live {m m' : HM} {bg at_ b : Int} (H : Holds m bg at_ b) (h : ∀ x ∈ m.live, x.1 = bg → x ∈ m'.live) : Holds m' bg at_ b := by
  obtain ⟨x, hx, h1, h2⟩ := H
  exact ⟨x, h x hx h1, h1, h2⟩
theorem hold_act {m : HM} (I : Inv m) {bg at_ b : Int} (H : Holds m bg at_ b) (op a b2 : Int) (h3 : ¬ op = 3) (h5 : op = 5 → ¬ a = at_) (h12 : op = 1 ∨ op = 2 → ¬ a = bg) : Holds (actM m op a b2).1 bg at_ b := by
  have hput : ∀ z : PB, ∀ x ∈ m.live, x.1 = bg → x ∈ insAt m.live (below m.live z.1) [z] := fun z x hx _ => insAt_mem.2 (.inr hx)
  unfold actM
  split
  · unfold allocM
    split
    · exact H
    · split
      · exact H
      · split
        · exact H
        · exact H.live (hput _)
  · split
    · rename_i h1
      have hna := h12 (.inl h1)
      unfold freeM
      split
      · exact H
      · rename_i hh
        obtain ⟨z, hz, hza, e⟩ := at_eq I.fit (by simpa using hh)
        rw [e]
        exact H.live fun x hx hxb => mem_del hx hz (fun e2 => hna (by rw [← hza, ← e2, hxb]))
    · split
      · rename_i h2
        have hna := h12 (.inr h2)
        unfold resizeM
        split
        · exact H
        · split
          · exact H
          · rename_i hh
            obtain ⟨z, hz, hza, e⟩ := at_eq I.fit (by simpa using hh)
            rw [e]
            have hne : ∀ x : PB, x.1 = bg → x ≠ z := fun x hxb e2 => hna (by rw [← hza, ← e2, hxb])
            split
            · exact H
            · split
              · exact H.live fun x hx hxb => mem_set_ne hx hz (hne x hxb)
              · split
                · exact H
                · rename_i to hr
                  refine H.live fun x hx hxb => ?_
                  have hs : ¬ sizeB b2 = false := by assumption
                  obtain ⟨kn, hkn, hk1, hk2⟩ : ∃ kn : Nat, b2 = (kn : Int) ∧ 1 ≤ kn ∧ kn ≤ 4096 := by
                    unfold sizeB at hs
                    simp at hs
                    exact ⟨b2.toNat, by omega, by omega, by omega⟩
                  subst hkn
                  obtain ⟨-, -, mg, -⟩ := I.count.move (x := z) (List.mem_of_getElem? hz) (alignOfM_pos a).1 hk1 hr
                  exact mem_del (insAt_mem.2 (.inr hx)) mg (hne x hxb)
      · by_cases h3' : op = 3
        · exact absurd h3' h3
        · try rw [if_neg h3]
          split
          · unfold failAtM
            split <;> exact H
          · split
            · rename_i h5'
              have hna := h5 h5'
              unfold storeM
              split
              · split
                · exact H
                · rename_i k hk
                  split
                  · exact H
                  · rename_i z hz
                    obtain ⟨z', hz', hpz⟩ := find_some hk
                    rw [hz] at hz'
                    obtain rfl := Option.some.inj hz'
                    obtain ⟨x, hx, hxb, g1, g2, g3⟩ := H
                    by_cases hxz : x = z
                    · subst hxz
                      have hkl := (List.getElem?_eq_some_iff.1 hz).1
                      have e := inB_iff.1 hpz
                      refine ⟨putB x (a - x.1).toNat b2, List.mem_set hkl _, hxb, g1, ?_, ?_⟩
                      · unfold pend putB
                        rw [List.length_set]
                        exact g2
                      · show (x.2.set (a - x.1).toNat b2)[(at_ - bg).toNat]? = some b
                        rw [List.getElem?_set_ne (by omega)]
                        exact g3
                    · exact ⟨x, mem_set_ne hx hz hxz, hxb, g1, g2, g3⟩
              · exact H
            · split <;> exact H
/-! where the block of a place begins -/
def bgF (at_ : Int) (l : List (Int × Int)) : Int := l.foldl (fun acc x => if x.1 ≤ at_ then x.1 else acc) 0
theorem bgF_take (at_ : Int) (l : List (Int × Int)) (k : Nat) (x : Int × Int) (h : l[k]? = some x) : bgF at_ (l.take (k + 1)) = if x.1 ≤ at_ then x.1 else bgF at_ (l.take k) := by
  unfold bgF
  rw [List.take_add_one, h]
  simp only [Option.toList_some, List.foldl_append, List.foldl_cons, List.foldl_nil]
theorem bgF_holds {m : HM} (I : Inv m) {bg at_ b : Int} (H : Holds m bg at_ b) : bgF at_ (stretches m) = bg := by
  obtain ⟨x, hx, h1, h2, h3, -⟩ := H
  obtain ⟨i, hi, e⟩ := List.getElem_of_mem hx
  have hi' : m.live[i]? = some x := by rw [List.getElem?_eq_getElem hi, e]
  have hs : (stretches m)[i]? = some (shape x) := by unfold stretches; rw [List.getElem?_map, hi']; rfl
  have key : ∀ k, i < k → k ≤ (stretches m).length → bgF at_ ((stretches m).take k) = bg := by
    intro k
    induction k with
    | zero => intro h; omega
    | succ k ih =>
      intro hik hk
      have hk' : k < m.live.length := by rw [str_len] at hk; omega
      have hks : (stretches m)[k]? = some (shape m.live[k]) := by unfold stretches; rw [List.getElem?_map, List.getElem?_eq_getElem hk']; rfl
      rw [bgF_take at_ _ k _ hks]
      by_cases e2 : k = i
      · subst e2
        rw [hks] at hs
        have e3 := Option.some.inj hs
        rw [e3, if_pos (by show x.1 ≤ at_; omega)]
        exact h1
      · have hlt := (I.fit.lt hi' (List.getElem?_eq_getElem hk') (by omega)).2
        rw [if_neg (by show ¬ (m.live[k]).1 ≤ at_; omega)]
        exact ih (by omega) (by omega)
  have := key (stretches m).length (by rw [str_len]; exact hi) (Nat.le_refl _)
  rw [List.take_length] at this
  exact this
end Go.Proofs.YtegpkcbmgjoicaaGreat
