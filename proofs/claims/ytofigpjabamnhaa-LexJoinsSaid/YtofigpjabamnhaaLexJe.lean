/- The walk of package lex's isToken: a range over a function. Conditions: the text is not immense. -/
import Derived.Test.YtofigpjabamnhaaLexJb
namespace Go.Proofs.Ytofigpjabamnhaa
open Go.RowKit Go.Shelf LX
set_option linter.unusedVariables false
attribute [local go_sem] Oper.semAt_some
/-- a token has the kind and the whole text -/
def isM (k : Int) (t : ByteArray) (x : Tok) : Prop := (x.1 : Int) = k ∧ (t.extract x.2.1 (x.2.1 + x.2.2)).toList = t.toList
abbrev tB (k a : Int) (t : ByteArray) : Obj := .cells #[.int .i64 k, .int .i64 a, .string t] 38 (0, 0)
def TI (k a : Int) (t : ByteArray) (w : World) (pre : List Tok) (W : World) : Prop :=
  (pre.length ≤ 1 ∧ (∀ x ∈ pre, isM k t x) ∧ W.heap[w.heap.size]? = some (tB k a t) ∧ Boxed W (w.heap.size + 1) 4 (.bool false) ∧ Boxed W (w.heap.size + 1 + 1) 3 (.int .i64 (pre.length : Nat))) ∧ Below w.heap.size w W
def TIx (k a : Int) (t : ByteArray) (w : World) (c : Code) (pre : List Tok) (W : World) : Prop :=
  (c = .ret ∧ (2 ≤ pre.length ∨ ∃ x ∈ pre, ¬ isM k t x) ∧ Boxed W (w.heap.size + 1) 4 (.bool false)) ∧ Below w.heap.size w W
theorem TI_own (k a : Int) (t : ByteArray) (w : World) (B : Nat) (h : w.heap.size ≤ B) : OwnFrom B (TI k a t w) :=
  OwnFrom.and (Own.from (fun s' A B row hs hg hr => ⟨hs.1, hs.2.1, own_heap w.heap.size (fun (_ : Unit) => tB k a t) (fun _ => rfl) () A B row hs.2.2.1 hg hr,
      boxed_own _ _ (fun _ => Value.bool false) s' A B row hs.2.2.2.1 hg hr, boxed_own _ _ (fun (pre : List Tok) => Value.int .i64 (pre.length : Nat)) s' A B row hs.2.2.2.2 hg hr⟩) _) (ownFrom_below (Nat.le_refl _) h)
theorem TIx_own (k a : Int) (t : ByteArray) (w : World) (B : Nat) (h : w.heap.size ≤ B) (c : Code) : OwnFrom B (TIx k a t w c) :=
  OwnFrom.and (Own.from (fun s' A B row hs hg hr => ⟨hs.1, hs.2.1, boxed_own _ _ (fun _ => Value.bool false) s' A B row hs.2.2 hg hr⟩) _) (ownFrom_below (Nat.le_refl _) h)
set_option maxRecDepth 100000 in
set_option maxHeartbeats 2000000 in
theorem isTok_in (n : Nat) (hn : 3 ≤ n) (k a : Int) (t : ByteArray) (w : World) (hs : t.size ≤ 6000) (b : Bool)
    (hd : ∀ ys, ys = seqL (toksF (nat t)) → ys.length ≤ 1 → (∀ x ∈ ys, isM k t x) → ((ys.length : Int) == 1) = b)
    (hx : ∀ pre, pre <+: seqL (toksF (nat t)) → (2 ≤ pre.length ∨ ∃ x ∈ pre, ¬ isM k t x) → b = false) :
    CallsIn Fence.wide n Try.prog 34 #[.agg #[.int .i64 k, .int .i64 a, .string t]] w fun e w' => e = .returned (.bool b) ∧ Q w w' := by
  have h1 : 1 ≤ n := by omega
  have hsi : (t.size : Int) ≤ 6000 := by omega
  have HD := hide hd
  have HX := hide hx
  clear hd hx
  refine callsIn_of_wp_marks Try.func34 rfl trivial ?_ rfl
  simp only [Try.ntmps34, List.size_toArray, List.length_cons, List.length_nil, Nat.reduceAdd, Nat.reduceSub, Array.replicate_succ, Array.replicate_zero, List.push_toArray, List.append_toArray, List.nil_append, List.cons_append]
  gi_wp2_with fail
  refine ⟨trivial, ?_⟩
  refine (callsIn_wide.2 (tokens_any t _)).mono ?_
  rintro e w1 ⟨rfl, rfl⟩
  gi_wp2_with fail
  have b0 : ((((w.alloc (.cells #[.int .i64 k, .int .i64 a, .string t] 38)).alloc (.cells #[.bool false] 4)).alloc (.cells #[.int .i64 0] 3)).alloc (.cells #[.string t] 9)).heap[w.heap.size]? = some (tB k a t) := by
    rw [heap_alloc_old _ _ (by simp <;> omega), heap_alloc_old _ _ (by simp <;> omega), heap_alloc_old _ _ (by simp), heap_alloc_new]
  have bB := ((Boxed.new (w.alloc (.cells #[.int .i64 k, .int .i64 a, .string t] 38)) 4 (.bool false)).alloc (.cells #[.int .i64 0] 3)).alloc (.cells #[.string t] 9)
  have bN := (Boxed.new ((w.alloc (.cells #[.int .i64 k, .int .i64 a, .string t] 38)).alloc (.cells #[.bool false] 4)) 3 (.int .i64 0)).alloc (.cells #[.string t] 9)
  have bS := Boxed.new (((w.alloc (.cells #[.int .i64 k, .int .i64 a, .string t] 38)).alloc (.cells #[.bool false] 4)).alloc (.cells #[.int .i64 0] 3)) 9 (.string t)
  simp only [World.size_alloc] at bB bN bS
  have hB0 : Below w.heap.size w ((((w.alloc (.cells #[.int .i64 k, .int .i64 a, .string t] 38)).alloc (.cells #[.bool false] 4)).alloc (.cells #[.int .i64 0] 3)).alloc (.cells #[.string t] 9)) := (((Q.refl w).alloc _ |>.alloc _).alloc _).alloc _
  have hsz : ((((w.alloc (.cells #[.int .i64 k, .int .i64 a, .string t] 38)).alloc (.cells #[.bool false] 4)).alloc (.cells #[.int .i64 0] 3)).alloc (.cells #[.string t] 9)).heap.size = w.heap.size + 4 := by simp
  obtain ⟨W0, hW0⟩ : ∃ W0, ((((w.alloc (.cells #[.int .i64 k, .int .i64 a, .string t] 38)).alloc (.cells #[.bool false] 4)).alloc (.cells #[.int .i64 0] 3)).alloc (.cells #[.string t] 9)) = W0 := ⟨_, rfl⟩
  rw [hW0] at b0 bB bN bS hB0 hsz ⊢
  clear hW0
  refine wpIn_rangeFunc_ownH rfl h1 (gf := 41) (lb := #[.pointer (some ⟨w.heap.size + 1 + 1 + 1, 0, none⟩)]) rfl trivial (enters_of Try.func41 (by kernel_rfl) rfl)
    (tok_stops (n - 1) (by omega) (w.heap.size + 1 + 1 + 1) w.heap.size t (by omega) W0 bS) KT.trans (kt_b (by omega)) (Below.refl _ _) (fun _ => rfl)
    (TI k a t w) (TIx k a t w) (TI_own k a t w _ (by omega)) (TIx_own k a t w _ (by omega))
    ⟨⟨by simp, by simp, b0, bB, bN⟩, hB0⟩
    (fun x a' W => ∃ Bx, w.heap.size + 3 ≤ Bx ∧ W.heap[Bx]? = some (.cells #[.int .i64 (x.1 : Nat), .int .i64 (x.2.1 : Nat), .string (t.extract x.2.1 (x.2.1 + x.2.2))] 38 (0, 0)) ∧
      a' = { tmps := #[.agg #[.int .i64 k, .int .i64 a, .string t], .pointer (some ⟨w.heap.size, 0, none⟩), .pointer (some ⟨w.heap.size + 1, 0, none⟩), .pointer (some ⟨w.heap.size + 1 + 1, 0, none⟩), .pointer (some ⟨Bx, 0, none⟩), .pointer (some ⟨w.heap.size, 2, none⟩), .string t, .func (.func 41) #[] #[.pointer (some ⟨w.heap.size + 1 + 1 + 1, 0, none⟩)], .agg #[.int .i64 (x.1 : Nat), .int .i64 (x.2.1 : Nat), .string (t.extract x.2.1 (x.2.1 + x.2.2))], undef, undef, undef, undef, undef, undef, undef, undef, undef, undef, undef, undef, undef, undef, undef, undef, undef, undef, undef, undef], defers := [] })
    (fun x a' _ X Y row hs hg hr => by obtain ⟨Bx, h1, h2, h3⟩ := hs; exact ⟨Bx, h1, own_heap Bx (fun (_ : Unit) => Obj.cells #[.int .i64 (x.1 : Nat), .int .i64 (x.2.1 : Nat), .string (t.extract x.2.1 (x.2.1 + x.2.2))] 38 (0, 0)) (fun _ => rfl) () X Y row h2 hg (fun r e => (hr r e).2), h3⟩)
    ?assign ?body ?done ?stop
  case assign =>
    rintro l pre x W K ⟨⟨hl1, hm, b0, bB, bN⟩, hB⟩ hK
    have hlt := bN.lt
    have hlt0 := (Array.getElem?_eq_some_iff.1 b0).1
    gi_wp2_with fail
    exact hK _ _ ((KeepsOthers.alloc _ _).from _) (kt_grown (World.grownBy_alloc W _ none) (fun r e => by cases e) hB.size) ⟨⟨hl1, hm, (heap_alloc_old _ _ hlt0).trans b0, bB.alloc _, bN.alloc _⟩, hB.alloc hB.size _⟩ ⟨W.heap.size, by omega, heap_alloc_new _ _, rfl⟩
  case body =>
    rintro l pre ⟨xk, xp, xm⟩ a' W hl hr ⟨⟨hl1, hm, b0, bB, bN⟩, hB⟩ ⟨Bx, hBx, bX, rfl⟩ hlt
    have cx0 : W.cell? ⟨Bx, 0, none⟩ = some (.int .i64 (xk : Nat)) := by rw [cell_of_row _ _ _ _ _ _ bX]; rfl
    have cx2 : W.cell? ⟨Bx, 2, none⟩ = some (.string (t.extract xp (xp + xm))) := by rw [cell_of_row _ _ _ _ _ _ bX]; rfl
    obtain ⟨T, hT⟩ : ∃ T, t.extract xp (xp + xm) = T := ⟨_, rfl⟩
    rw [hT] at cx2
    have HT := hide hT
    clear hT bX
    have ct0 : W.cell? ⟨w.heap.size, 0, none⟩ = some (.int .i64 k) := by rw [cell_of_row _ _ _ _ _ _ b0]; rfl
    have ct2 : W.cell? ⟨w.heap.size, 2, none⟩ = some (.string t) := by rw [cell_of_row _ _ _ _ _ _ b0]; rfl
    have cb := bB.cell
    have fb := bB.frozen
    have cn := bN.cell
    have fn := bN.frozen
    have hBsz := hB.size
    have hW0 := bB.lt
    have hW1 := bN.lt
    obtain ⟨m, hm'⟩ : ∃ m, pre.length = m := ⟨_, rfl⟩
    rw [hm'] at cn bN hl1
    obtain ⟨W1, hW1'⟩ : ∃ W1, W.setCell ⟨w.heap.size + 1 + 1, 0, none⟩ (.int .i64 ((m : Int) + 1)) = W1 := ⟨_, rfl⟩
    have dx0 : W1.cell? ⟨Bx, 0, none⟩ = some (.int .i64 (xk : Nat)) := by rw [← hW1', World.cell?_setCell_other _ _ _ _ (by intro h; simp only [Addr.mk.injEq] at h; omega)]; exact cx0
    have dx2 : W1.cell? ⟨Bx, 2, none⟩ = some (.string T) := by rw [← hW1', World.cell?_setCell_other _ _ _ _ (by intro h; simp only [Addr.mk.injEq] at h; omega)]; exact cx2
    have dt0 : W1.cell? ⟨w.heap.size, 0, none⟩ = some (.int .i64 k) := by rw [← hW1', World.cell?_setCell_other _ _ _ _ (by intro h; simp only [Addr.mk.injEq] at h; omega)]; exact ct0
    have dt2 : W1.cell? ⟨w.heap.size, 2, none⟩ = some (.string t) := by rw [← hW1', World.cell?_setCell_other _ _ _ _ (by intro h; simp only [Addr.mk.injEq] at h; omega)]; exact ct2
    have bN1 : Boxed W1 (w.heap.size + 1 + 1) 3 (.int .i64 ((m : Int) + 1)) := by rw [← hW1']; exact bN.set _
    have bB1 : Boxed W1 (w.heap.size + 1) 4 (.bool false) := by rw [← hW1']; exact bB.other (by omega) _
    have b01 : W1.heap[w.heap.size]? = some (tB k a t) := by rw [← hW1', heap_setCell_other _ _ _ _ (by simp; omega)]; exact b0
    have hB1 : Below w.heap.size w W1 := by rw [← hW1']; exact hB.setCell (p := ⟨w.heap.size + 1 + 1, 0, none⟩) (by simp; omega) _
    have hk1 : KeepsOthers W W1 := by rw [← hW1']; exact KeepsOthers.setCell _ _ _
    have hkt1 : KT w.heap.size W W1 := by rw [← hW1']; exact kt_set bN (by decide) (by omega) _
    have db := bB1.cell
    have gb := bB1.frozen
    have dn := bN1.cell
    have hmi : (m : Int) ≤ 1 := by omega
    by_cases hm1 : m = 1
    · have d1 : decide (1 < (m : Int) + 1) = true := by simp; omega
      have hbad : 2 ≤ (pre ++ [(xk, xp, xm)]).length ∨ ∃ x ∈ pre ++ [(xk, xp, xm)], ¬ isM k t x := .inl (by rw [List.length_append, hm']; simp; omega)
      have HBAD := hide hbad
      clear hm'
      try clear hm1
      have b3 := hide (bB1.set (.bool false))
      have HB3 := hide (hB1.setCell (p := ⟨w.heap.size + 1, 0, none⟩) (by simp) (.bool false))
      have HK3 := hide (hk1.trans (KeepsOthers.setCell W1 ⟨w.heap.size + 1, 0, none⟩ (.bool false)))
      clear hbad
      gi_wp2_with fail
      exact ⟨HK3.out.from _, ⟨rfl, HBAD.out, b3.out⟩, HB3.out⟩
    · have d1 : decide (1 < (m : Int) + 1) = false := by simp; omega
      cases e2 : ((xk : Int) != k)
      · cases e3 : (T.toList == t.toList)
        · have hbad : 2 ≤ (pre ++ [(xk, xp, xm)]).length ∨ ∃ x ∈ pre ++ [(xk, xp, xm)], ¬ isM k t x := .inr ⟨(xk, xp, xm), by simp, fun h => by have := h.2; rw [HT.out] at this; simp [this] at e3⟩
          have HBAD := hide hbad
          clear hm'
          try clear hm1
          have b3 := hide (bB1.set (.bool false))
          have HB3 := hide (hB1.setCell (p := ⟨w.heap.size + 1, 0, none⟩) (by simp) (.bool false))
          have HK3 := hide (hk1.trans (KeepsOthers.setCell W1 ⟨w.heap.size + 1, 0, none⟩ (.bool false)))
          clear hbad
          gi_wp2_with fail
          exact ⟨HK3.out.from _, ⟨rfl, HBAD.out, b3.out⟩, HB3.out⟩
        · have hmx : isM k t (xk, xp, xm) := ⟨by simpa using e2, by rw [HT.out]; simpa using e3⟩
          have hall : ∀ x ∈ pre ++ [(xk, xp, xm)], isM k t x := fun x hx => by
            rcases List.mem_append.1 hx with hx | hx
            · exact hm x hx
            · obtain rfl := List.mem_singleton.1 hx; exact hmx
          have hle : (pre ++ [(xk, xp, xm)]).length ≤ 1 := by rw [List.length_append, hm']; simp; omega
          have bN2 : Boxed W1 (w.heap.size + 1 + 1) 3 (.int .i64 ((pre ++ [(xk, xp, xm)]).length : Nat)) := by
            rw [show (((pre ++ [(xk, xp, xm)]).length : Nat) : Int) = (m : Int) + 1 by rw [List.length_append, hm']; simp]
            exact bN1
          have HALL := hide hall
          have HLE := hide hle
          have BN2 := hide bN2
          clear hall hle bN2 hmx hm' hm1
          gi_wp2_with fail
          exact ⟨hk1.from _, hkt1, ⟨⟨HLE.out, HALL.out, b01, bB1, BN2.out⟩, hB1⟩⟩
      · have hbad : 2 ≤ (pre ++ [(xk, xp, xm)]).length ∨ ∃ x ∈ pre ++ [(xk, xp, xm)], ¬ isM k t x := .inr ⟨(xk, xp, xm), by simp, fun h => by have := h.1; simp [this] at e2⟩
        have HBAD := hide hbad
        clear hm'
        try clear hm1
        have b3 := hide (bB1.set (.bool false))
        have HB3 := hide (hB1.setCell (p := ⟨w.heap.size + 1, 0, none⟩) (by simp) (.bool false))
        have HK3 := hide (hk1.trans (KeepsOthers.setCell W1 ⟨w.heap.size + 1, 0, none⟩ (.bool false)))
        clear hbad
        gi_wp2_with fail
        exact ⟨HK3.out.from _, ⟨rfl, HBAD.out, b3.out⟩, HB3.out⟩
  case done =>
    rintro D ys W hD hys hLI hK
    obtain ⟨⟨hl1, hm, b0, bB, bN⟩, hB⟩ := hLI
    have hb := HD.out ys hys hl1 hm
    have cb := bB.cell
    have fb := bB.frozen
    have cn := bN.cell
    have hW0 := bB.lt
    have hW1 := bN.lt
    obtain ⟨m, hm'⟩ : ∃ m, ys.length = m := ⟨_, rfl⟩
    rw [hm'] at cn bN hl1 hb
    have hDl := (Array.getElem?_eq_some_iff.1 hK).1
    have b3 := hide (bB.set (.bool b))
    have HB3 := hide (hB.setCell (p := ⟨w.heap.size + 1, 0, none⟩) (by simp) (.bool b))
    have HK3 := hide (KeepsOthers.setCell W ⟨w.heap.size + 1, 0, none⟩ (.bool b))
    clear hys hm
    gi_wp2_with fail
    have hK' := HK3.out.same D _ hK rfl
    refine ⟨by simp, .inl ⟨_, _, rfl, run_takeDeferred hK', ?_⟩⟩
    have hc1 := cell_kept b3.out.cell (grownBy_putObj' _ D (.deferred none)) (fun r e => by cases e; exact ⟨_, hK', rfl⟩)
    refine ⟨.bool b, ?_, ⟨rfl, HB3.out.trans (belowK_b (w := w) (Nat.le_refl _) _ D _ _ (by omega) hK' rfl rfl)⟩⟩
    simp [results, Try.f34, go_sem, hc1]
  case stop =>
    rintro D c pre W hD hpre hLI hK
    obtain ⟨⟨rfl, hbad, bB⟩, hB⟩ := hLI
    have hb := HX.out pre hpre hbad
    subst hb
    gi_wp2_with fail
    have hK' := hK
    refine ⟨by simp, .inl ⟨_, _, rfl, run_takeDeferred hK', ?_⟩⟩
    have hc1 := cell_kept bB.cell (grownBy_putObj' _ D (.deferred none)) (fun r e => by cases e; exact ⟨_, hK', rfl⟩)
    refine ⟨.bool false, ?_, ⟨rfl, hB.trans (belowK_b (w := w) (Nat.le_refl _) _ D _ _ (by omega) hK' rfl rfl)⟩⟩
    simp [results, Try.f34, go_sem, hc1]
theorem isTok_any (k a : Int) (t : ByteArray) (w : World) (hs : t.size ≤ 6000) :
    Calls Try.prog 34 #[.agg #[.int .i64 k, .int .i64 a, .string t]] w fun e w' => e = .returned (.bool (isTokB k t)) ∧ Q w w' := by
  refine (callsIn_wide (n := 3)).1 (isTok_in 3 (Nat.le_refl _) k a t w hs (isTokB k t) ?_ ?_)
  · rintro ys rfl hl hm
    obtain ⟨⟨ts, bad⟩, hR⟩ : ∃ R, toksF (nat t) = R := ⟨_, rfl⟩
    unfold isTokB
    rw [hR] at hl hm ⊢
    rcases bad with _ | p
    · rcases ts with _ | ⟨x, _ | ⟨y, ts⟩⟩
      · rfl
      · have h := hm x (by simp [seqL])
        simp [seqL, h.1, h.2]
      · simp [seqL] at hl
    · rcases ts with _ | ⟨x, ts⟩
      · have h := (hm (0, p, 0) (by simp [seqL])).2
        have h0 : t.size = 0 := by
          have := congrArg List.length h
          simp [ByteArray.toList_eq, Lib.extract_data] at this
          omega
        have hn : nat t = [] := List.length_eq_zero_iff.1 (by rw [nat_length, h0])
        rw [hn] at hR
        cases hR
      · simp [seqL] at hl
  · intro pre hpre hbad
    obtain ⟨⟨ts, bad⟩, hR⟩ : ∃ R, toksF (nat t) = R := ⟨_, rfl⟩
    unfold isTokB
    rw [hR] at hpre ⊢
    rcases ts with _ | ⟨x, _ | ⟨y, ts⟩⟩
    · rfl
    · rcases bad with _ | p
      · simp only
        cases hb : (((x.1 : Int) == k) && ((t.extract x.2.1 (x.2.1 + x.2.2)).toList == t.toList))
        · rfl
        · have hx : isM k t x := by
            simp only [Bool.and_eq_true, beq_iff_eq] at hb
            exact hb
          have hsl : seqL ([x], none) = [x] := rfl
          rw [hsl] at hpre
          rcases hbad with h | ⟨z, hz, hzm⟩
          · have := hpre.length_le
            simp at this
            omega
          · have := hpre.subset hz
            obtain rfl := List.mem_singleton.1 this
            exact absurd hx hzm
      · rfl
    · rfl
end Go.Proofs.Ytofigpjabamnhaa
