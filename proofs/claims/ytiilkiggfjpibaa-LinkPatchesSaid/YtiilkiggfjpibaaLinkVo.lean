/- The two images of a patch; a copy from one row into another one. Conditions: as each theorem says. -/
import Derived.Test.YtiilkiggfjpibaaLinkVn
import Derived.Laws.CopyOwn
namespace Go.Proofs.Ytiilkiggfjpibaa
open Go.RowKit LK
set_option linter.unusedVariables false
set_option linter.unusedSimpArgs false
theorem imgR_T {os : List OV} {L : List Value} (h : imgR os = some L) : L = imgT (tabF 0 0 os) 0 os [] := by
  have hm : missL (tabF 0 0 os) os = [] := Classical.byContradiction fun h2 => by
    have := (imgF_none_iff (a := 0) (L := [])).2 h2
    unfold imgR at h
    rw [h] at this
    cases this
  have := imgF_total (a := 0) (L := []) (missL_nil.1 hm)
  unfold imgR at h
  rw [this] at h
  injection h with h
  exact h.symm
theorem mk_val {a b : Nat} (ha : a < 65536) (hb : b < 65536) : (mkSt a b).1.val = a ∧ (mkSt a b).2.val = b := ⟨Nat.mod_eq_of_lt ha, Nat.mod_eq_of_lt hb⟩
theorem split_at {os : List OV} {i : Nat} {p : OV} (h : os[i]? = some p) : os = os.take i ++ p :: os.drop (i + 1) := by
  obtain ⟨hi, e⟩ := List.getElem?_eq_some_iff.1 h
  conv => lhs; rw [← List.take_append_drop i os, List.drop_eq_getElem_cons hi, e]
/-- what a patch leaves alone is the same in both images -/
theorem patch_agr {os : List OV} {i : Nat} {o p : OV} {L L' : List Value} (hp : os[i]? = some p) (hr : room o.1.n = room p.1.n) (hO : ∀ q ∈ os, q.valid = 0 ∧ q.1.xs.length = q.1.n ∧ q.1.n ≤ 512) (ho : o.valid = 0 ∧ o.1.xs.length = o.1.n ∧ o.1.n ≤ 512) (h1 : imgR os = some L) (h2 : imgR (os.set i o) = some L') (hn : os.length ≤ 8) :
    Agr (Cov (rawTo os i (wantS o p) os.length)) L L' ∧ L.length = offF os ∧ InB (offF os) (rawTo os i (wantS o p) os.length) := by
  have hoff := offF_le (os := os) fun q hq => (hO q hq).2.2
  have hi := (List.getElem?_eq_some_iff.1 hp).1
  have hmono : ∀ j, offF (os.take j) ≤ offF os := fun j => by
    rcases Nat.le_total j os.length with h | h
    · have := offF_mono os h
      rwa [List.take_of_length_le (Nat.le_refl _)] at this
    · rw [List.take_of_length_le h]; exact Nat.le_refl _
  have htot : offF os ≤ 4352 := by
    have := hoff os.length
    rw [List.take_of_length_le (Nat.le_refl _)] at this
    omega
  have hfi := hmono i
  have hfj := hmono (i + 1)
  have hfs := offF_succ hp
  have hw : ∀ j q, os[j]? = some q → ∀ x ∈ q.2.2.xs, 0 ≤ x.1 ∧ offF (os.take j) + x.1.toNat + 4 ≤ offF os := fun j q hq x hx => by
    have a := wnt_at (hO q (List.mem_of_getElem? hq)).1 hx
    have b := offF_succ hq
    have c := hmono (j + 1)
    have d := room_ge q.1.n
    exact ⟨a.1, by omega⟩
  have hmem : ∀ j q, os[j]? = some q → j ≠ i → ∀ x ∈ q.2.2.xs, wantS o p x = true → mkSt (offF (os.take j) + x.1.toNat) (offF (os.take j) + x.1.toNat + 4) ∈ rawTo os i (wantS o p) os.length := fun j q hq hj x hx hf => by
    unfold rawTo
    refine List.mem_cons_of_mem _ (List.mem_flatMap.2 ⟨j, List.mem_range.2 (List.getElem?_eq_some_iff.1 hq).1, ?_⟩)
    unfold strAt
    rw [hq]
    dsimp only
    rw [if_neg hj]
    unfold strW
    exact List.mem_map.2 ⟨x, List.mem_filter.2 ⟨hx, hf⟩, rfl⟩
  refine ⟨?_, ?_, ?_⟩
  · rw [imgR_T h1, imgR_T h2]
    have e1 := split_at hp
    have e2 : os.set i o = os.take i ++ o :: os.drop (i + 1) := by
      rw [List.set_eq_take_append_cons_drop, if_pos hi]
    have hl : (os.take i).length = i := by rw [List.length_take]; omega
    have := img_agr (l := os.take i) (m := os.drop (i + 1)) (o := o) (p := p) (U := Cov (rawTo os i (wantS o p) os.length)) hr ?_ ?_ ?_
    · rw [← e1, ← e2] at this
      exact this
    · intro q hq
      rw [← e1] at hq
      have h9 : q.valid = 0 ∧ q.1.xs.length = q.1.n ∧ q.1.n ≤ 512 := by
        rcases hq with hq | rfl
        · exact hO q hq
        · exact ho
      exact ⟨h9.2.1, fun x hx => wnt_at h9.1 hx⟩
    · intro n a b
      refine ⟨mkSt (offF (os.take i)) (offF (os.take (i + 1))), List.mem_cons_self .., ?_⟩
      obtain ⟨v1, v2⟩ := mk_val (a := offF (os.take i)) (b := offF (os.take (i + 1))) (by omega) (by omega)
      rw [v1, v2]
      omega
    · intro j q hq hj x hx hf n a b
      rw [← e1] at hq a b
      rw [hl] at hj
      have h9 := hw j q hq x hx
      refine ⟨_, hmem j q hq hj x hx hf, ?_⟩
      obtain ⟨v1, v2⟩ := mk_val (a := offF (os.take j) + x.1.toNat) (b := offF (os.take j) + x.1.toNat + 4) (by omega) (by omega)
      rw [v1, v2]
      omega
  · rw [imgR_T h1, imgT_length fun q hq => (hO q hq).2.1]
    simp
  · intro s hs
    unfold rawTo at hs
    rcases List.mem_cons.1 hs with rfl | hs
    · obtain ⟨v1, v2⟩ := mk_val (a := offF (os.take i)) (b := offF (os.take (i + 1))) (by omega) (by omega)
      rw [v1, v2]
      omega
    · obtain ⟨j, hj, hs⟩ := List.mem_flatMap.1 hs
      unfold strAt at hs
      cases hq : os[j]? with
      | none => rw [hq] at hs; simp at hs
      | some q =>
        rw [hq] at hs
        dsimp only at hs
        split at hs
        · simp at hs
        · obtain ⟨x, hx, rfl⟩ := List.mem_map.1 hs
          have h9 := hw j q hq x (List.mem_filter.1 hx).1
          obtain ⟨v1, v2⟩ := mk_val (a := offF (os.take j) + x.1.toNat) (b := offF (os.take j) + x.1.toNat + 4) (by omega) (by omega)
          rw [v1, v2]
          omega
/-- a piece of one row, at its place in another one -/
def pieceL (M : List Value) (a b : Nat) : List Value := (M.drop a).take (b - a)
theorem piece_len {M : List Value} {a b : Nat} (h : b ≤ M.length) : (pieceL M a b).length = b - a := by
  unfold pieceL
  rw [List.length_take, List.length_drop]
  omega
theorem splice_get {cur M : List Value} {a b n : Nat} (h0 : a ≤ b) (h1 : b ≤ M.length) (h2 : cur.length = M.length) : (splice cur a (pieceL M a b))[n]? = if a ≤ n ∧ n < b then M[n]? else cur[n]? := by
  have hl := piece_len (M := M) (a := a) (b := b) h1
  unfold splice
  rw [hl]
  rcases Nat.lt_or_ge n a with h | h
  · rw [if_neg (by omega), List.getElem?_append_left (by rw [List.length_take]; omega), List.getElem?_take_of_lt h]
  · rw [List.getElem?_append_right (by rw [List.length_take]; omega), List.length_take, show n - min a cur.length = n - a by omega]
    rcases Nat.lt_or_ge n b with h3 | h3
    · rw [if_pos ⟨h, h3⟩, List.getElem?_append_left (by rw [hl]; omega)]
      unfold pieceL
      rw [List.getElem?_take_of_lt (by omega), List.getElem?_drop]
      congr 1
      omega
    · rw [if_neg (by omega), List.getElem?_append_right (by rw [hl]; omega), hl, List.getElem?_drop]
      congr 1
      omega
theorem splice_take {C cs : List Value} {a N : Nat} (h : a + cs.length ≤ N) (hN : N ≤ C.length) : (C.take a ++ cs ++ C.drop (a + cs.length)).take N = splice (C.take N) a cs := by
  unfold splice
  rw [List.take_append, List.length_append, List.length_take, List.take_of_length_le (by rw [List.length_append, List.length_take]; omega), List.take_take, List.append_assoc, show min a C.length = a by omega, show min a N = a by omega, List.drop_take, show N - (a + cs.length) = N - (a + cs.length) from rfl]
/-- copy(out[a:b], made[a:b]) -/
theorem run_copyB {P : Program} {t e : TypeId} (hu : P.underlying t = some (.slice e)) (hs : (P.info? e).map (·.size) = some 1) {W : World} {B g h c N a b cM : Nat} {cur M : List Value} (ho : W.ownsRow B e 1 (.slice (some ⟨g, 0, none⟩) N c) N cur) (hM : ∀ j u, M[j]? = some u → W.cell? ⟨h, j, none⟩ = some u) (hml : M.length = N) (h1 : ∀ u ∈ M, u.oneCell' = true) (hab : a ≤ b) (hb : b ≤ N) (hcM : N ≤ cM) (ty : TypeId) :
    ∃ v w', (Builtin.copy_ #[t, t] ty #[.slice (if c = a then some ⟨g, 0, none⟩ else some ⟨g, a, none⟩) (b - a) (c - a), .slice (if cM = a then some ⟨h, 0, none⟩ else some ⟨h, a, none⟩) (b - a) (cM - a)]).run P W = .ok v w' ∧ w'.ownsRow B e 1 (.slice (some ⟨g, 0, none⟩) N c) N (splice cur a (pieceL M a b)) ∧ W.grownBy w' (some g) := by
  have hl := piece_len (M := M) (a := a) (b := b) (by omega)
  have hcl : cur.length = N := by have := ho.1; omega
  rcases ho.2 with ⟨e0, _⟩ | ⟨g', c', C, e0, hg, hh, hn, hc, hsz, ht⟩
  · cases e0
  · cases e0
    by_cases h0 : b = a
    · subst h0
      have hp : pieceL M b b = [] := by unfold pieceL; simp
      refine ⟨_, W, run_copy_none (P := P) W t t ty e _ _ _ _ _ _ hu hs (by simp), ?_, grown_refl W _⟩
      rw [hp]
      have : splice cur b [] = cur := by unfold splice; simp
      rw [this]
      exact ho
    · rw [if_neg (by omega), if_neg (by omega)]
      have hr := run_copy_row (P := P) W t t ty e g a (b - a) (c - a) ⟨h, a, none⟩ (b - a) (cM - a) C e (pieceL M a b) hu hs hh (by rw [hl]; exact (Nat.min_self _).symm) (fun j u hj => by
        rw [addr_add]
        refine hM _ _ ?_
        unfold pieceL at hj
        rcases Nat.lt_or_ge j (b - a) with h5 | h5
        · rw [List.getElem?_take_of_lt h5, List.getElem?_drop] at hj
          exact hj
        · rw [List.getElem?_take_eq_none h5] at hj; cases hj) (by rw [hl, hsz]; omega) (fun u hu => h1 u (by unfold pieceL at hu; exact List.mem_of_mem_drop (List.mem_of_mem_take hu)))
      refine ⟨_, _, hr, ⟨?_, .inr ⟨g, c, _, rfl, hg, setRow_heap W g C _ e _ hh, hn, hc, ?_, ?_⟩⟩, ⟨rfl, rfl, rfl, by simp [World.setRow], fun k _ hk => setRow_other W g k _ (fun e => hk (by rw [e]))⟩⟩
      · have := length_splice cur a (pieceL M a b) (by omega)
        omega
      · simp only [List.size_toArray, List.length_append, List.length_take, List.length_drop, Array.length_toList, hl]
        omega
      · have h9 := splice_take (C := C.toList) (cs := pieceL M a b) (a := a) (N := N) (by omega) (by simp; omega)
        rw [Nat.mul_one] at ht ⊢
        rw [ht] at h9
        exact h9
end Go.Proofs.Ytiilkiggfjpibaa
