/- The image of objects in which no name is missing, in plain Lean; what the reference stores is that. Conditions: as each theorem says. -/
import Derived.Test.YtjdioilkhbpmoaaLinkRb
import Derived.Test.YtjdioilkhbpmoaaLinkIc
namespace Go.Proofs.Ytjdioilkhbpmoaa
open Go.RowKit LK
set_option linter.unusedVariables false
def adr (T : Tab) (s : ByteArray) : Int := match lookS T s with | some (_, b) => b | none => 0
def wantsT (T : Tab) (st : Int) (ws : List Wnt) (L : List Value) : List Value := ws.foldl (fun L x => putW st (adr T x.2.2) x L) L
def z8 : Value := .int .u8 0
def padL (o : OV) (L : List Value) : List Value := L ++ o.1.xs.map (Value.int .u8) ++ List.replicate (room o.1.n - o.1.n) z8
def imgT (T : Tab) : Nat → List OV → List Value → List Value
  | _, [], L => L
  | a, o :: r, L => imgT T (a + room o.1.n) r (wantsT T (a : Nat) o.2.2.xs (padL o L))
def noneMiss (T : Tab) (os : List OV) : Prop := ∀ o ∈ os, ∀ x ∈ o.2.2.xs, (lookS T x.2.2).isSome = true
theorem wantsL_total {T : Tab} {st : Int} : ∀ {ws : List Wnt} {L : List Value}, (∀ x ∈ ws, (lookS T x.2.2).isSome = true) → wantsL T st ws L = some (wantsT T st ws L)
  | [], L, _ => rfl
  | x :: r, L, h => by
    have hx := h x (List.mem_cons_self ..)
    obtain ⟨pq, e⟩ := Option.isSome_iff_exists.1 hx
    have ha : adr T x.2.2 = pq.2 := by unfold adr; rw [e]
    simp only [wantsL, e]
    rw [wantsL_total (fun y hy => h y (List.mem_cons_of_mem _ hy))]
    simp only [wantsT, List.foldl_cons, ha]
theorem imgF_total {T : Tab} : ∀ {os : List OV} {a : Nat} {L : List Value}, noneMiss T os → imgF T a os L = some (imgT T a os L)
  | [], a, L, _ => rfl
  | o :: r, a, L, h => by
    unfold imgF imgT imgStep
    rw [wantsL_total (h o (List.mem_cons_self ..))]
    exact imgF_total (fun p hp => h p (List.mem_cons_of_mem _ hp))
theorem wantsL_miss {T : Tab} {st : Int} : ∀ {ws : List Wnt} {L : List Value} {x : Wnt}, x ∈ ws → lookS T x.2.2 = none → wantsL T st ws L = none
  | y :: r, L, x, hx, hn => by
    unfold wantsL
    split
    · rfl
    · rename_i pq e
      rcases List.mem_cons.1 hx with rfl | hx
      · rw [hn] at e; cases e
      · exact wantsL_miss hx hn
theorem imgF_miss {T : Tab} : ∀ {os : List OV} {a : Nat} {L : List Value} {o : OV} {x : Wnt}, o ∈ os → x ∈ o.2.2.xs → lookS T x.2.2 = none → imgF T a os L = none
  | p :: r, a, L, o, x, ho, hx, hn => by
    unfold imgF
    split
    · rfl
    · rename_i L' e
      rcases List.mem_cons.1 ho with rfl | ho
      · unfold imgStep at e
        rw [wantsL_miss hx hn] at e
        cases e
      · exact imgF_miss ho hx hn
theorem missL_nil {T : Tab} {os : List OV} : missL T os = [] ↔ noneMiss T os := by
  unfold missL noneMiss
  rw [List.flatMap_eq_nil_iff]
  refine ⟨fun h o ho x hx => ?_, fun h o ho => ?_⟩
  · have := h o ho
    unfold missW at this
    rw [List.map_eq_nil_iff, List.filter_eq_nil_iff] at this
    have h2 := this x hx
    cases hl : lookS T x.2.2 with
    | none => rw [hl] at h2; exact absurd rfl h2
    | some _ => rfl
  · unfold missW
    rw [List.map_eq_nil_iff, List.filter_eq_nil_iff]
    intro x hx
    have := h o ho x hx
    obtain ⟨pq, e⟩ := Option.isSome_iff_exists.1 this
    rw [e]
    exact Bool.false_ne_true
theorem imgF_none_iff {T : Tab} {os : List OV} {a : Nat} {L : List Value} : imgF T a os L = none ↔ missL T os ≠ [] := by
  by_cases h : noneMiss T os
  · rw [imgF_total h]
    exact ⟨fun e => (by cases e), fun e => absurd (missL_nil.2 h) e⟩
  · constructor
    · intro _ e
      exact h (missL_nil.1 e)
    · intro _
      unfold noneMiss at h
      simp only [Classical.not_forall, Bool.not_eq_true] at h
      obtain ⟨o, ho, x, hx, hn⟩ := h
      exact imgF_miss ho hx (by simpa using hn)
theorem wantsT_step {T : Tab} {st : Int} {ws : List Wnt} {j : Nat} {x : Wnt} {L : List Value} (h : ws[j]? = some x) : wantsT T st (ws.take (j + 1)) L = putW st (adr T x.2.2) x (wantsT T st (ws.take j) L) := by
  unfold wantsT
  rw [List.take_add_one, h, Option.toList_some, List.foldl_append]
  rfl
theorem wantsT_len {T : Tab} {st : Int} : ∀ {ws : List Wnt} {L : List Value}, (wantsT T st ws L).length = L.length
  | [], L => rfl
  | x :: r, L => by
    have := wantsT_len (T := T) (st := st) (ws := r) (L := putW st (adr T x.2.2) x L)
    rw [putW_len] at this
    exact this
theorem putL_app {v o : Nat} : ∀ {k : Nat} {X Z : List Value}, o + k ≤ X.length → putL v o k (X ++ Z) = putL v o k X ++ Z
  | 0, X, Z, _ => rfl
  | k + 1, X, Z, h => by
    rw [putL, putL, putL_app (by omega), List.set_append_left _ _ (by rw [putL_len]; omega)]
theorem imgT_step {T : Tab} {os : List OV} {k : Nat} {o : OV} {a : Nat} {L : List Value} (h : os[k]? = some o) : imgT T a (os.drop k) L = imgT T (a + room o.1.n) (os.drop (k + 1)) (wantsT T (a : Nat) o.2.2.xs (padL o L)) := by
  obtain ⟨hj, e⟩ := List.getElem?_eq_some_iff.1 h
  rw [List.drop_eq_getElem_cons hj, e]
  rfl
theorem adr_found {T : Tab} {s : ByteArray} (h : (lookS T s).isSome = true) : (match lookS T s with | some (_, b) => ((b, true) : Int × Bool) | none => (0, false)) = (adr T s, true) := by
  obtain ⟨pq, e⟩ := Option.isSome_iff_exists.1 h
  unfold adr
  rw [e]
/-- one byte more of an object, in the place of a zero -/
theorem byte_step {X : List Value} {bs : List Int} {k m : Nat} {x : Int} (h : bs[k]? = some x) (hm : 0 < m) :
    ((X ++ (bs.take k).map (Value.int .u8)) ++ List.replicate m z8).set (X.length + k) (.int .u8 x) = (X ++ (bs.take (k + 1)).map (Value.int .u8)) ++ List.replicate (m - 1) z8 := by
  obtain ⟨hk, e⟩ := List.getElem?_eq_some_iff.1 h
  have hl : (X ++ (bs.take k).map (Value.int .u8)).length = X.length + k := by rw [List.length_append, List.length_map, List.length_take]; omega
  obtain ⟨m', rfl⟩ : ∃ m', m = m' + 1 := ⟨m - 1, by omega⟩
  rw [List.set_append_right _ _ (by omega), hl, Nat.sub_self, List.replicate_succ, List.set_cons_zero, List.take_add_one, h, Option.toList_some, List.map_append]
  simp
theorem offF_mono (os : List OV) {i j : Nat} (h : i ≤ j) : offF (os.take i) ≤ offF (os.take j) := by
  unfold offF
  rw [show os.take i = (os.take j).take i by rw [List.take_take]; congr 1; omega]
  conv => rhs; rw [← List.take_append_drop i (os.take j), List.map_append, List.sum_append]
  omega
end Go.Proofs.Ytjdioilkhbpmoaa
