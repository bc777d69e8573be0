/- What holds while the reference's Drop works off its names. Conditions: as each theorem says. -/
import Derived.Test.YtjdioilkhbpmoaaLinkDd
namespace Go.Proofs.Ytjdioilkhbpmoaa
open Go.RowKit LK
set_option linter.unusedVariables false
structure RI (os : List OV) (T : Tab) (rs : List ByteArray) (N : List Bool) (names : List ByteArray) (jo : Option Nat) : Prop where
  len : N.length = os.length
  sound : ∀ k, N[k]? = some true → Reach os T rs k
  root : ∀ r ∈ rs, r ∈ names
  mem : ∀ x ∈ names, x ∈ rs ∨ ∃ j, N[j]? = some true ∧ x ∈ wantsAt os j
  sub : ∀ j : Nat, N[j]? = some true → some j = jo ∨ ∀ x ∈ wantsAt os j, x ∈ names
theorem set_mono {N : List Bool} {i j : Nat} (h : N[j]? = some true) : (N.set i true)[j]? = some true := by
  rw [List.getElem?_set]
  have := (List.getElem?_eq_some_iff.1 h).1
  split <;> simp_all
theorem set_inv {N : List Bool} {i j : Nat} (h : (N.set i true)[j]? = some true) : j = i ∨ N[j]? = some true := by
  by_cases e : i = j
  · exact .inl e.symm
  · rw [List.getElem?_set_ne e] at h
    exact .inr h
theorem RI.start (os : List OV) (T : Tab) (rs : List ByteArray) : RI os T rs (List.replicate os.length false) rs none := by
  have hno : ∀ k, (List.replicate os.length false)[k]? = some true → False := fun k h => by
    have := List.mem_of_getElem? h
    simp at this
  exact ⟨by simp, fun k h => (hno k h).elim, fun r h => h, fun x h => .inl h, fun j h => (hno j h).elim⟩
theorem RI.mark {os : List OV} {T : Tab} {rs : List ByteArray} {N : List Bool} {names : List ByteArray} (h : RI os T rs N names none) {i : Nat} {nm : ByteArray} (hi : i < os.length) (hm : nm ∈ names) (ho : objAt T nm = some i) : RI os T rs (N.set i true) names (some i) := by
  have hr : Reach os T rs i := by
    rcases h.mem nm hm with h1 | ⟨j, hj, h1⟩
    · exact .root h1 ho
    · exact .want (h.sound j hj) h1 ho
  refine ⟨by simp [h.len], fun k hk => ?_, h.root, fun x hx => ?_, fun j hj => ?_⟩
  · rcases set_inv hk with rfl | hk
    · exact hr
    · exact h.sound k hk
  · rcases h.mem x hx with h1 | ⟨j, hj, h1⟩
    · exact .inl h1
    · exact .inr ⟨j, set_mono hj, h1⟩
  · rcases set_inv hj with rfl | hj
    · exact .inl rfl
    · rcases h.sub j hj with h1 | h1
      · cases h1
      · exact .inr h1
theorem RI.snoc {os : List OV} {T : Tab} {rs : List ByteArray} {N : List Bool} {names : List ByteArray} {i : Nat} (h : RI os T rs N names (some i)) {x : ByteArray} (hx : x ∈ wantsAt os i) (hN : N[i]? = some true) : RI os T rs N (names ++ [x]) (some i) := by
  refine ⟨h.len, h.sound, fun r hr => List.mem_append_left _ (h.root r hr), fun y hy => ?_, fun j hj => ?_⟩
  · rcases List.mem_append.1 hy with hy | hy
    · exact h.mem y hy
    · simp at hy
      subst hy
      exact .inr ⟨i, hN, hx⟩
  · rcases h.sub j hj with h1 | h1
    · exact .inl h1
    · exact .inr fun y hy => List.mem_append_left _ (h1 y hy)
theorem RI.close {os : List OV} {T : Tab} {rs : List ByteArray} {N : List Bool} {names : List ByteArray} {i : Nat} (h : RI os T rs N names (some i)) (hd : ∀ x ∈ wantsAt os i, x ∈ names) : RI os T rs N names none := by
  refine ⟨h.len, h.sound, h.root, h.mem, fun j hj => ?_⟩
  rcases h.sub j hj with h1 | h1
  · cases h1
    exact .inr hd
  · exact .inr h1
theorem RI.marks {os : List OV} {T : Tab} {rs : List ByteArray} {N : List Bool} {names : List ByteArray} (h : RI os T rs N names none) (hd : Done T N names) : Marks os T rs N := by
  refine marks_of h.len h.sound (fun x hx => hd x (h.root x hx)) fun j hj => ?_
  rcases h.sub j hj with h1 | h1
  · cases h1
  · exact fun x hx => hd x (h1 x hx)
theorem Done.set {T : Tab} {N : List Bool} {names : List ByteArray} (h : Done T N names) (i : Nat) : Done T (N.set i true) names := fun x hx k hk => set_mono (h x hx k hk)
def hasB (o : OV) (s : ByteArray) : Bool := o.2.1.xs.any fun y => y.1.toList == s.toList
theorem tabF_sym : ∀ (os : List OV) (k0 a0 : Nat) (x : ByteArray) (p : Int × Int), (x, p) ∈ tabF k0 a0 os → ∃ (i : Nat) (o : OV), p.1 = ((k0 + i : Nat) : Int) ∧ os[i]? = some o ∧ x ∈ symN o
  | [], _, _, _, _, h => by cases h
  | o :: r, k0, a0, x, p, h => by
    rw [tabF, List.mem_append] at h
    rcases h with h | h
    · obtain ⟨y, hy, e⟩ := List.mem_map.1 h
      cases e
      exact ⟨0, o, rfl, rfl, List.mem_map.2 ⟨y, hy, rfl⟩⟩
    · obtain ⟨i, o', e, ho, hx⟩ := tabF_sym r (k0 + 1) _ x p h
      exact ⟨i + 1, o', by rw [e]; congr 1; omega, ho, hx⟩
theorem obj_has {os : List OV} {nm : ByteArray} {i : Nat} (h : objAt (tabF 0 0 os) nm = some i) : ∃ o x, os[i]? = some o ∧ x ∈ symN o ∧ (x.toList == nm.toList) = true := by
  unfold objAt lookS at h
  rw [Option.map_map] at h
  obtain ⟨y, hy, e⟩ := Option.map_eq_some_iff.1 h
  obtain ⟨i', o, e2, ho, hx⟩ := tabF_sym os 0 0 y.1 y.2 (List.mem_of_find?_eq_some hy)
  have hp := List.find?_some hy
  dsimp only [Function.comp] at e
  have : i' = i := by omega
  subst this
  exact ⟨o, y.1, ho, hx, hp⟩
theorem mem_tabF : ∀ (os : List OV) (k0 a0 i : Nat) (o : OV) (x : ByteArray), os[i]? = some o → x ∈ symN o → ∃ p, (x, p) ∈ tabF k0 a0 os
  | [], _, _, i, _, _, h, _ => by simp at h
  | o :: r, k0, a0, 0, o', x, h, hx => by
    simp at h
    subst h
    obtain ⟨y, hy, rfl⟩ := List.mem_map.1 hx
    exact ⟨_, by rw [tabF]; exact List.mem_append_left _ (List.mem_map.2 ⟨y, hy, rfl⟩)⟩
  | o :: r, k0, a0, i + 1, o', x, h, hx => by
    obtain ⟨p, hp⟩ := mem_tabF r (k0 + 1) (a0 + room o.1.n) i o' x (by simpa using h) hx
    exact ⟨p, by rw [tabF]; exact List.mem_append_right _ hp⟩
/-- an object has a name: the table leads to it -/
theorem has_obj {os : List OV} {nm : ByteArray} {i : Nat} {o : OV} (hd : dupB [] (namesF os) = false) (ho : os[i]? = some o) (h : hasB o nm = true) : objAt (tabF 0 0 os) nm = some i := by
  unfold hasB at h
  obtain ⟨y, hy, he⟩ := List.any_eq_true.1 h
  have hys : y.1 ∈ symN o := List.mem_map.2 ⟨y, hy, rfl⟩
  obtain ⟨p, hp⟩ := mem_tabF os 0 0 i o y.1 ho hys
  cases hk : objAt (tabF 0 0 os) nm with
  | none =>
    rw [objAt_none] at hk
    unfold lookS at hk
    rw [Option.map_eq_none_iff, List.find?_eq_none] at hk
    exact absurd he (hk _ hp)
  | some k =>
    obtain ⟨o2, x, ho2, hx, hxe⟩ := obj_has hk
    have hxy : (x.toList == y.1.toList) = true := by
      have e1 : x.toList = nm.toList := by simpa using hxe
      have e2 : y.1.toList = nm.toList := by simpa using he
      rw [e1, e2]
      simp
    rcases Nat.lt_trichotomy k i with hlt | rfl | hlt
    · have := nd_found ho hlt ho2 hys (List.any_eq_true.2 ⟨x, hx, hxy⟩)
      rw [this] at hd; cases hd
    · rfl
    · have := nd_found ho2 hlt ho hx (List.any_eq_true.2 ⟨y.1, hys, by have e := (beq_iff_eq.1 hxy).symm; rw [e]; simp⟩)
      rw [this] at hd; cases hd
theorem obj_hasB {os : List OV} {nm : ByteArray} {i : Nat} {o : OV} (ho : os[i]? = some o) (h : objAt (tabF 0 0 os) nm = some i) : hasB o nm = true := by
  obtain ⟨o2, x, ho2, hx, hxe⟩ := obj_has h
  rw [ho] at ho2
  cases ho2
  obtain ⟨y, hy, rfl⟩ := List.mem_map.1 hx
  exact List.any_eq_true.2 ⟨y, hy, hxe⟩
theorem listed_nodup {os : List OV} (h : listedO os = 0) : dupB [] (namesF os) = false := by
  unfold listedO at h
  split at h
  · omega
  · split at h
    · rename_i h1; exact absurd h h1
    · split at h
      · cases h
      · rename_i h2; simpa using h2
theorem addr_obj (os : List OV) (s : ByteArray) : (addrR os s).2 = (objAt (tabF 0 0 os) s).isSome := by
  unfold addrR objAt
  cases lookS (tabF 0 0 os) s <;> rfl
end Go.Proofs.Ytjdioilkhbpmoaa
