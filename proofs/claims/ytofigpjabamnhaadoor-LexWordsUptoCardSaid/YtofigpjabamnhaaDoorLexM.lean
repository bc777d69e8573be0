/- The walk of package lex's Lex: what it returns, for every source. Conditions: none. -/
import Derived.Test.YtofigpjabamnhaaDoorLexL
namespace Go.Proofs.YtofigpjabamnhaaDoor
open Go.RowKit Go.Shelf LX
set_option linter.unusedVariables false
attribute [local go_sem] Oper.semAt_some
theorem El_tok : El Tryd.prog 34 39 3 32 := El.of (z := .agg #[.int .i64 0, .int .i64 0, .string ⟨#[]⟩]) Tryd.underlying34 (by kernel_rfl) rfl (by omega) (by omega)
/-- what Lex and the reference's Lex return -/
def LexPost (w : World) (s : ByteArray) (r : List Tok × Nat × Nat) (e : Ending) (w' : World) : Prop :=
  ∃ v, e = .returned (.tuple #[v, .int .i64 (r.2.1 : Nat), .int .i64 (r.2.2 : Nat)]) ∧ w'.ownsRow w.heap.size 39 3 v r.1.length (tflat s r.1) ∧ Q w w'
theorem Lex_big (s : ByteArray) (w : World) (h : 4000 < s.size) : Calls Tryd.prog 15 #[.string s] w (LexPost w s ([], 0, 3)) := by
  have h' : 4000 < (s.size : Int) := by omega
  have hd : decide (4000 < (s.size : Int)) = true := by simp; omega
  go_enter Tryd.func15, Tryd.ntmps15
  go_wp2_with fail
  refine bodyPost_ret (v := .tuple #[.slice none 0 0, .int .i64 0, .int .i64 3]) (by simp [results, Tryd.results15, go_sem]) rfl ⟨_, rfl, World.ownsRow_nil _ _ _ _, ?_⟩
  exact ((Q.refl w).alloc _ |>.alloc _).alloc _
/-- whether a token has a text -/
def ne (s : ByteArray) (t : Tok) : Prop := (s.extract t.2.1 (t.2.1 + t.2.2)).toList ≠ []
theorem tflat_snoc (s : ByteArray) (pre : List Tok) (t : Tok) : tflat s (pre ++ [t]) = tflat s pre ++ tcells s t := by rw [tflat_append]; simp [tflat]
theorem Boxed.drew {W : World} {B : Nat} {t : TypeId} {v : Value} (h : Boxed W B t v) : Boxed W.drew B t v := h
/-- between two rounds -/
def LI (s : ByteArray) (w : World) (pre : List Tok) (W : World) : Prop :=
  ((∀ t ∈ pre, ne s t) ∧ (∃ v, Boxed W (w.heap.size + 1 + 1 + 1) 34 v ∧ W.ownsRow w.heap.size 39 3 v pre.length (tflat s pre) ∧ True) ∧ Boxed W w.heap.size 34 (.slice none 0 0) ∧ Boxed W (w.heap.size + 1) 3 (.int .i64 0) ∧ Boxed W (w.heap.size + 1 + 1) 35 (.int .i64 0)) ∧ Below w.heap.size w W
/-- behind a round that has left -/
def LIx (s : ByteArray) (w : World) (c : Code) (pre : List Tok) (W : World) : Prop :=
  (c = .ret ∧ ∃ pre' t, pre = pre' ++ [t] ∧ (∀ u ∈ pre', ne s u) ∧ ¬ ne s t ∧ Boxed W w.heap.size 34 (.slice none 0 0) ∧ Boxed W (w.heap.size + 1) 3 (.int .i64 (t.2.1 : Nat)) ∧ Boxed W (w.heap.size + 1 + 1) 35 (.int .i64 2)) ∧ Below w.heap.size w W
theorem LI_own (s : ByteArray) (w : World) (B : Nat) (h : w.heap.size ≤ B) : OwnFrom B (LI s w) :=
  OwnFrom.and (Own.from (fun s' A B row hs hg hr => ⟨hs.1, holdsRow_own w.heap.size (w.heap.size + 1 + 1 + 1) 34 39 3 (fun pre : List Tok => pre.length) (fun pre => tflat s pre) (fun _ _ => True) s' A B row hs.2.1 hg hr,
      boxed_own _ _ (fun _ => Value.slice none 0 0) s' A B row hs.2.2.1 hg hr, boxed_own _ _ (fun _ => Value.int .i64 0) s' A B row hs.2.2.2.1 hg hr, boxed_own _ _ (fun _ => Value.int .i64 0) s' A B row hs.2.2.2.2 hg hr⟩) _) (ownFrom_below (Nat.le_refl _) h)
theorem LIx_own (s : ByteArray) (w : World) (B : Nat) (h : w.heap.size ≤ B) (c : Code) : OwnFrom B (LIx s w c) :=
  OwnFrom.and (Own.from (fun s' A B row hs hg hr => by
      obtain ⟨h1, pre', t, h2, h3, h4, h5, h6, h7⟩ := hs
      exact ⟨h1, pre', t, h2, h3, h4, boxed_own _ _ (fun _ => Value.slice none 0 0) s' A B row h5 hg hr, boxed_own _ _ (fun _ => Value.int .i64 (t.2.1 : Nat)) s' A B row h6 hg hr, boxed_own _ _ (fun _ => Value.int .i64 2) s' A B row h7 hg hr⟩) _) (ownFrom_below (Nat.le_refl _) h)
set_option maxRecDepth 100000 in
set_option maxHeartbeats 2000000 in
theorem Lex_in (n : Nat) (hn : 3 ≤ n) (s : ByteArray) (w : World) (hs : s.size ≤ 4000) (R : List Tok) (hR : seqL (toksF (nat s)) = R)
    (hd : (∀ t ∈ R, ne s t) → lexF (nat s) = if 1000 < R.length then ([], 0, 3) else (R, R.length, 0)) (hx : ∀ pre t, pre ++ [t] <+: R → (∀ u ∈ pre, ne s u) → ¬ ne s t → lexF (nat s) = ([], t.2.1, 2)) :
    CallsIn Fence.wide n Tryd.prog 15 #[.string s] w (LexPost w s (lexF (nat s))) := by
  have h1 : 1 ≤ n := by omega
  have hsi : ¬ 4000 < (s.size : Int) := by omega
  have hdi : decide (4000 < (s.size : Int)) = false := by simp; omega
  have HD := hide hd
  have HX := hide hx
  have HR := hide hR
  clear hd hx hR
  refine callsIn_of_wp_marks Tryd.func15 rfl trivial ?_ rfl
  simp only [Tryd.ntmps15, List.size_toArray, List.length_cons, List.length_nil, Nat.reduceAdd, Nat.reduceSub, Array.replicate_succ, Array.replicate_zero, List.push_toArray, List.append_toArray, List.nil_append, List.cons_append]
  gi_wp2_with fail
  refine ⟨trivial, ?_⟩
  refine (callsIn_wide.2 (tokens_any s _)).mono ?_
  rintro e w1 ⟨rfl, rfl⟩
  gi_wp2_with fail
  have bV := ((((Boxed.new w 34 (.slice none 0 0)).alloc (.cells #[.int .i64 0] 3)).alloc (.cells #[.int .i64 0] 35)).alloc (.cells #[.slice none 0 0] 34)).alloc (.cells #[.string s] 9)
  have bN := (((Boxed.new (w.alloc (.cells #[.slice none 0 0] 34)) 3 (.int .i64 0)).alloc (.cells #[.int .i64 0] 35)).alloc (.cells #[.slice none 0 0] 34)).alloc (.cells #[.string s] 9)
  have bE := ((Boxed.new ((w.alloc (.cells #[.slice none 0 0] 34)).alloc (.cells #[.int .i64 0] 3)) 35 (.int .i64 0)).alloc (.cells #[.slice none 0 0] 34)).alloc (.cells #[.string s] 9)
  have bO := (Boxed.new (((w.alloc (.cells #[.slice none 0 0] 34)).alloc (.cells #[.int .i64 0] 3)).alloc (.cells #[.int .i64 0] 35)) 34 (.slice none 0 0)).alloc (.cells #[.string s] 9)
  have bS := Boxed.new ((((w.alloc (.cells #[.slice none 0 0] 34)).alloc (.cells #[.int .i64 0] 3)).alloc (.cells #[.int .i64 0] 35)).alloc (.cells #[.slice none 0 0] 34)) 9 (.string s)
  simp only [World.size_alloc] at bN bE bO bS
  have hB0 : Below w.heap.size w (((((w.alloc (.cells #[.slice none 0 0] 34)).alloc (.cells #[.int .i64 0] 3)).alloc (.cells #[.int .i64 0] 35)).alloc (.cells #[.slice none 0 0] 34)).alloc (.cells #[.string s] 9)) := ((((Q.refl w).alloc _ |>.alloc _).alloc _).alloc _).alloc _
  have hsz : (((((w.alloc (.cells #[.slice none 0 0] 34)).alloc (.cells #[.int .i64 0] 3)).alloc (.cells #[.int .i64 0] 35)).alloc (.cells #[.slice none 0 0] 34)).alloc (.cells #[.string s] 9)).heap.size = w.heap.size + 5 := by simp
  obtain ⟨W0, hW0⟩ : ∃ W0, (((((w.alloc (.cells #[.slice none 0 0] 34)).alloc (.cells #[.int .i64 0] 3)).alloc (.cells #[.int .i64 0] 35)).alloc (.cells #[.slice none 0 0] 34)).alloc (.cells #[.string s] 9)) = W0 := ⟨_, rfl⟩
  rw [hW0] at bV bN bE bO bS hB0 hsz ⊢
  clear hW0
  refine wpIn_rangeFunc_ownH rfl h1 (gf := 23) (lb := #[.pointer (some ⟨w.heap.size + 1 + 1 + 1 + 1, 0, none⟩)]) rfl trivial (enters_of Tryd.func23 (by kernel_rfl) rfl)
    (tok_stops (n - 1) (by omega) (w.heap.size + 1 + 1 + 1 + 1) w.heap.size s (by omega) W0 bS) KT.trans (kt_b (by omega)) (Below.refl _ _) (fun _ => rfl)
    (LI s w)
    (LIx s w)
    (LI_own s w _ (by omega)) (LIx_own s w _ (by omega))
    ⟨⟨by simp, ⟨_, bO, World.ownsRow_nil _ _ _ _, trivial⟩, bV, bN, bE⟩, hB0⟩
    (fun x a' W => ∃ Bx, w.heap.size + 4 ≤ Bx ∧ W.heap[Bx]? = some (.cells #[.int .i64 (x.1 : Nat), .int .i64 (x.2.1 : Nat), .string (s.extract x.2.1 (x.2.1 + x.2.2))] 39 (0, 0)) ∧
      a' = { tmps := #[.string s, undef, .pointer (some ⟨w.heap.size, 0, none⟩), .pointer (some ⟨w.heap.size + 1, 0, none⟩), .pointer (some ⟨w.heap.size + 1 + 1, 0, none⟩), .pointer (some ⟨w.heap.size + 1 + 1 + 1, 0, none⟩), .pointer (some ⟨Bx, 0, none⟩), .string s, .int .i64 s.size, .bool false, .string s, .func (.func 23) #[] #[.pointer (some ⟨w.heap.size + 1 + 1 + 1 + 1, 0, none⟩)], .agg #[.int .i64 (x.1 : Nat), .int .i64 (x.2.1 : Nat), .string (s.extract x.2.1 (x.2.1 + x.2.2))], undef, undef, undef, undef, undef, undef, undef, undef, undef, undef, undef, undef, undef, undef, undef], defers := [] })
    (fun x a' _ X Y row hs hg hr => by obtain ⟨Bx, h1, h2, h3⟩ := hs; exact ⟨Bx, h1, own_heap Bx (fun (_ : Unit) => Obj.cells #[.int .i64 (x.1 : Nat), .int .i64 (x.2.1 : Nat), .string (s.extract x.2.1 (x.2.1 + x.2.2))] 39 (0, 0)) (fun _ => rfl) () X Y row h2 hg (fun r e => (hr r e).2), h3⟩)
    ?assign ?body ?done ?stop
  case assign =>
    rintro l pre x W K ⟨⟨hne, ⟨v, bo, ho, -⟩, bv, bn, be⟩, hB⟩ hK
    have hlt := bo.lt
    gi_wp2_with fail
    exact hK _ _ ((KeepsOthers.alloc _ _).from _) (kt_grown (World.grownBy_alloc W _ none) (fun r e => by cases e) hB.size) ⟨⟨hne, ⟨v, bo.alloc _, ho.alloc _, trivial⟩, bv.alloc _, bn.alloc _, be.alloc _⟩, hB.alloc hB.size _⟩ ⟨W.heap.size, by omega, heap_alloc_new _ _, rfl⟩
  case body =>
    rintro l pre ⟨xk, xp, xm⟩ a' W hl ⟨r, hr⟩ ⟨⟨hne, ⟨v, bo, ho, -⟩, bv, bn, be⟩, hB⟩ ⟨Bx, hBx, bX, rfl⟩ hlt
    have h1' : 1 ≤ n - 1 - 1 := by omega
    have cx0 : W.cell? ⟨Bx, 0, none⟩ = some (.int .i64 (xk : Nat)) := by rw [cell_of_row _ _ _ _ _ _ bX]; rfl
    have cx1 : W.cell? ⟨Bx, 1, none⟩ = some (.int .i64 (xp : Nat)) := by rw [cell_of_row _ _ _ _ _ _ bX]; rfl
    have cx2 : W.cell? ⟨Bx, 2, none⟩ = some (.string (s.extract xp (xp + xm))) := by rw [cell_of_row _ _ _ _ _ _ bX]; rfl
    have co := bo.cell
    have hBsz := hB.size
    by_cases hE : ne s (xk, xp, xm)
    · have hE1 : ((s.extract xp (xp + xm)).toList == []) = false := by simpa [ne] using hE
      have hE2 : (s.extract xp (xp + xm)).toList.isEmpty = false := by simpa [ne] using hE
      obtain ⟨T, hT⟩ : ∃ T, s.extract xp (xp + xm) = T := ⟨_, rfl⟩
      rw [hT] at cx2 hE1 hE2
      have HT := hide hT
      clear hT bX
      have hpl : pre.length + 1 ≤ 4001 := by omega
      gi_wp2_with (gi_at_builtin; refine wpListIn_app1 rfl El_tok _ _ rfl rfl ho rfl rfl rfl ?_ ?_ ?_ ?_; (focus (simp [Value.oneCell'])); (focus omega); (focus omega); intro v1 w2 hown1 hgr1 hnn; obtain ⟨g', cap', rfl⟩ := ownsRow_succ hown1; obtain ⟨hv1, hv2, hr2, hk2, hb2⟩ := bo.appended (by decide) ho hBsz (by omega) hown1 hgr1; have hc1 := hv1.cell; have hf1 := hv1.frozen)
      have hbv := ((bv.alloc (.cells #[.int .i64 (xk : Nat), .int .i64 (xp : Nat), .string T] 39)).kept hgr1 (bv.not_row (by decide) ho)).other (B' := w.heap.size + 1 + 1 + 1) (by omega) (.slice (some ⟨g', 0, none⟩) (pre.length + 1) cap')
      have hbn := ((bn.alloc (.cells #[.int .i64 (xk : Nat), .int .i64 (xp : Nat), .string T] 39)).kept hgr1 (bn.not_row (by decide) ho)).other (B' := w.heap.size + 1 + 1 + 1) (by omega) (.slice (some ⟨g', 0, none⟩) (pre.length + 1) cap')
      have hbe := ((be.alloc (.cells #[.int .i64 (xk : Nat), .int .i64 (xp : Nat), .string T] 39)).kept hgr1 (be.not_row (by decide) ho)).other (B' := w.heap.size + 1 + 1 + 1) (by omega) (.slice (some ⟨g', 0, none⟩) (pre.length + 1) cap')
      have hkt : KT w.heap.size W (w2.setCell ⟨w.heap.size + 1 + 1 + 1, 0, none⟩ (.slice (some ⟨g', 0, none⟩) (pre.length + 1) cap')) :=
        ((kt_grown (World.grownBy_alloc W _ none) (fun r e => by cases e) hBsz).trans (kt_grown hgr1 (own_block_row (ho.alloc _)) (by simp; omega))).trans (kt_set hv1 (by decide) (by omega) _)
      have hne' : ∀ t ∈ pre ++ [(xk, xp, xm)], ne s t := fun t ht => by
        rcases List.mem_append.1 ht with ht | ht
        · exact hne t ht
        · obtain rfl := List.mem_singleton.1 ht; exact hE
      have hr3 : (w2.setCell ⟨w.heap.size + 1 + 1 + 1, 0, none⟩ (.slice (some ⟨g', 0, none⟩) (pre.length + 1) cap')).ownsRow w.heap.size 39 3 (.slice (some ⟨g', 0, none⟩) (pre.length + 1) cap') (pre ++ [(xk, xp, xm)]).length (tflat s (pre ++ [(xk, xp, xm)])) := by
        rw [tflat_snoc, List.length_append]
        have e : tcells s (xk, xp, xm) = [.int .i64 (xk : Nat), .int .i64 (xp : Nat), .string T] := by unfold tcells; rw [← HT.out]
        rw [e]
        exact hr2
      exact ⟨hk2.from _, hkt, ⟨⟨hne', ⟨_, hv2, hr3, trivial⟩, hbv, hbn, hbe⟩, hB.trans hb2⟩⟩
    · have hE0 : (s.extract xp (xp + xm)).toList = [] := Classical.not_not.1 hE
      have hE1 : ((s.extract xp (xp + xm)).toList == []) = true := by simp [hE0]
      have hE2 : (s.extract xp (xp + xm)).toList.isEmpty = true := by simp [hE0]
      obtain ⟨T, hT⟩ : ∃ T, s.extract xp (xp + xm) = T := ⟨_, rfl⟩
      rw [hT] at cx2 hE1 hE2
      have HT := hide hT
      have cv := bv.cell
      have cn := bn.cell
      have ce := be.cell
      have fv := bv.frozen
      have fn := bn.frozen
      have fe := be.frozen
      clear hT bX hE0
      gi_wp2_with fail
      have b1 := ((bv.set (.slice none 0 0)).other (B' := w.heap.size + 1) (by omega) (.int .i64 (xp : Nat))).other (B' := w.heap.size + 1 + 1) (by omega) (.int .i64 2)
      have b2 := ((bn.other (B' := w.heap.size) (by omega) (.slice none 0 0)).set (.int .i64 (xp : Nat))).other (B' := w.heap.size + 1 + 1) (by omega) (.int .i64 2)
      have b3 := ((be.other (B' := w.heap.size) (by omega) (.slice none 0 0)).other (B' := w.heap.size + 1) (by omega) (.int .i64 (xp : Nat))).set (.int .i64 2)
      have hB3 := ((hB.setCell (p := ⟨w.heap.size, 0, none⟩) (by simp) (.slice none 0 0)).setCell (p := ⟨w.heap.size + 1, 0, none⟩) (by simp) (.int .i64 (xp : Nat))).setCell (p := ⟨w.heap.size + 1 + 1, 0, none⟩) (by simp; omega) (.int .i64 2)
      have hk3 := ((KeepsOthers.setCell W ⟨w.heap.size, 0, none⟩ (.slice none 0 0)).trans (KeepsOthers.setCell _ ⟨w.heap.size + 1, 0, none⟩ (.int .i64 (xp : Nat)))).trans (KeepsOthers.setCell _ ⟨w.heap.size + 1 + 1, 0, none⟩ (.int .i64 2))
      have B1 := hide b1
      have B2 := hide b2
      have B3 := hide b3
      have HB3 := hide hB3
      have HK3 := hide hk3
      clear b1 b2 b3 hB3 hk3
      gi_region
      all_goals
        gi_wp2_with fail
        exact ⟨(HK3.out.trans (KeepsOthers.drew _)).from _, ⟨rfl, pre, (xk, xp, xm), rfl, hne, hE, B1.out, B2.out, B3.out⟩, HB3.out.drew⟩
  case done =>
    rintro D ys W hD hys hLI hK
    obtain ⟨⟨hne, ⟨v, bo, ho, -⟩, bv, bn, be⟩, hB⟩ := hLI
    have hl := HD.out (fun t ht => hne t (by rw [hys, HR.out]; exact ht))
    rw [HR.out] at hys
    subst hys
    obtain ⟨Ao, co', rfl, ho1, ho2, ho3, -⟩ := own_form ho
    have co := bo.cell
    have cv := bv.cell
    have cn := bn.cell
    have ce := be.cell
    have fv := bv.frozen
    have fn := bn.frozen
    have fe := be.frozen
    have hDl := (Array.getElem?_eq_some_iff.1 hK).1
    clear ho3
    by_cases hlg : 1000 < ys.length
    · rw [if_pos hlg] at hl
      have HL := hide hl
      have hdg : decide (1000 < (ys.length : Int)) = true := by simp; omega
      have b1 := ((bv.set (.slice none 0 0)).other (B' := w.heap.size + 1) (by omega) (.int .i64 0)).other (B' := w.heap.size + 1 + 1) (by omega) (.int .i64 3)
      have b2 := ((bn.other (B' := w.heap.size) (by omega) (.slice none 0 0)).set (.int .i64 0)).other (B' := w.heap.size + 1 + 1) (by omega) (.int .i64 3)
      have b3 := ((be.other (B' := w.heap.size) (by omega) (.slice none 0 0)).other (B' := w.heap.size + 1) (by omega) (.int .i64 0)).set (.int .i64 3)
      have hB3 := ((hB.setCell (p := ⟨w.heap.size, 0, none⟩) (by simp) (.slice none 0 0)).setCell (p := ⟨w.heap.size + 1, 0, none⟩) (by simp) (.int .i64 0)).setCell (p := ⟨w.heap.size + 1 + 1, 0, none⟩) (by simp; omega) (.int .i64 3)
      have hk3 := ((KeepsOthers.setCell W ⟨w.heap.size, 0, none⟩ (.slice none 0 0)).trans (KeepsOthers.setCell _ ⟨w.heap.size + 1, 0, none⟩ (.int .i64 0))).trans (KeepsOthers.setCell _ ⟨w.heap.size + 1 + 1, 0, none⟩ (.int .i64 3))
      have B1 := hide b1
      have B2 := hide b2
      have B3 := hide b3
      have HB3 := hide hB3
      have HK3 := hide hk3
      clear hl b1 b2 b3 hB3 hk3
      gi_wp2_with fail
      have hK' := HK3.out.same D _ hK rfl
      refine ⟨by simp, .inl ⟨_, _, rfl, run_takeDeferred hK', ?_⟩⟩
      have hc1 := cell_kept B1.out.cell (grownBy_putObj' _ D (.deferred none)) (fun r e => by cases e; exact ⟨_, hK', rfl⟩)
      have hc2 := cell_kept B2.out.cell (grownBy_putObj' _ D (.deferred none)) (fun r e => by cases e; exact ⟨_, hK', rfl⟩)
      have hc3 := cell_kept B3.out.cell (grownBy_putObj' _ D (.deferred none)) (fun r e => by cases e; exact ⟨_, hK', rfl⟩)
      refine ⟨.tuple #[.slice none 0 0, .int .i64 0, .int .i64 3], ?_, ⟨_, by rw [HL.out]; rfl, by rw [HL.out]; exact World.ownsRow_nil _ _ _ _, HB3.out.trans (belowK_b (w := w) (Nat.le_refl _) _ D _ _ (by omega) hK' rfl rfl)⟩⟩
      simp [results, Tryd.f15, go_sem, hc1, hc2, hc3]
    · rw [if_neg hlg] at hl
      have HL := hide hl
      have hdg : decide (1000 < (ys.length : Int)) = false := by simp; omega
      clear hl
      have b1 := ((bv.set (.slice Ao ys.length co')).other (B' := w.heap.size + 1) (by omega) (.int .i64 (ys.length : Nat))).other (B' := w.heap.size + 1 + 1) (by omega) (.int .i64 0)
      have b2 := ((bn.other (B' := w.heap.size) (by omega) (.slice Ao ys.length co')).set (.int .i64 (ys.length : Nat))).other (B' := w.heap.size + 1 + 1) (by omega) (.int .i64 0)
      have b3 := ((be.other (B' := w.heap.size) (by omega) (.slice Ao ys.length co')).other (B' := w.heap.size + 1) (by omega) (.int .i64 (ys.length : Nat))).set (.int .i64 0)
      have hB3 := ((hB.setCell (p := ⟨w.heap.size, 0, none⟩) (by simp) (.slice Ao ys.length co')).setCell (p := ⟨w.heap.size + 1, 0, none⟩) (by simp) (.int .i64 (ys.length : Nat))).setCell (p := ⟨w.heap.size + 1 + 1, 0, none⟩) (by simp; omega) (.int .i64 0)
      have hk3 := ((KeepsOthers.setCell W ⟨w.heap.size, 0, none⟩ (.slice Ao ys.length co')).trans (KeepsOthers.setCell _ ⟨w.heap.size + 1, 0, none⟩ (.int .i64 (ys.length : Nat)))).trans (KeepsOthers.setCell _ ⟨w.heap.size + 1 + 1, 0, none⟩ (.int .i64 0))
      have ho4 := ((ho.kept (grownBy_setCell' W w.heap.size (.slice Ao ys.length co')) (.inr (bv.not_row (by decide) ho).symm)).kept (grownBy_setCell' _ (w.heap.size + 1) (.int .i64 (ys.length : Nat))) (.inr (bn.not_row (by decide) ho).symm)).kept (grownBy_setCell' _ (w.heap.size + 1 + 1) (.int .i64 0)) (.inr (be.not_row (by decide) ho).symm)
      have B1 := hide b1
      have B2 := hide b2
      have B3 := hide b3
      have HB3 := hide hB3
      have HK3 := hide hk3
      have HO4 := hide ho4
      clear b1 b2 b3 hB3 hk3 ho4 ho bv bn be bo
      gi_wp2_with fail
      gi_region
      all_goals
        gi_wp2_with fail
        have hK' := (HK3.out.trans (KeepsOthers.drew _)).same D _ hK rfl
        refine ⟨by simp, .inl ⟨_, _, rfl, run_takeDeferred hK', ?_⟩⟩
        have hc1 := cell_kept (Boxed.drew B1.out).cell (grownBy_putObj' _ D (.deferred none)) (fun r e => by cases e; exact ⟨_, hK', rfl⟩)
        have hc2 := cell_kept (Boxed.drew B2.out).cell (grownBy_putObj' _ D (.deferred none)) (fun r e => by cases e; exact ⟨_, hK', rfl⟩)
        have hc3 := cell_kept (Boxed.drew B3.out).cell (grownBy_putObj' _ D (.deferred none)) (fun r e => by cases e; exact ⟨_, hK', rfl⟩)
        refine ⟨.tuple #[.slice Ao ys.length co', .int .i64 (ys.length : Nat), .int .i64 0], ?_, ⟨_, by rw [HL.out]; rfl, by rw [HL.out]; exact ownsRow_putObj HO4.out.drew _ hK' rfl, HB3.out.drew.trans (belowK_b (w := w) (Nat.le_refl _) _ D _ _ (by omega) hK' rfl rfl)⟩⟩
        simp [results, Tryd.f15, go_sem, hc1, hc2, hc3]
  case stop =>
    rintro D c pre W hD hpre hLI hK
    obtain ⟨⟨rfl, pre', ⟨tk, tp, tm⟩, rfl, hne, hE, bv, bn, be⟩, hB⟩ := hLI
    have hl := HX.out pre' _ (by rw [← HR.out]; exact hpre) hne hE
    have HL := hide hl
    clear hl
    gi_wp2_with fail
    have hK' := hK
    refine ⟨by simp, .inl ⟨_, _, rfl, run_takeDeferred hK', ?_⟩⟩
    have hc1 := cell_kept bv.cell (grownBy_putObj' _ D (.deferred none)) (fun r e => by cases e; exact ⟨_, hK', rfl⟩)
    have hc2 := cell_kept bn.cell (grownBy_putObj' _ D (.deferred none)) (fun r e => by cases e; exact ⟨_, hK', rfl⟩)
    have hc3 := cell_kept be.cell (grownBy_putObj' _ D (.deferred none)) (fun r e => by cases e; exact ⟨_, hK', rfl⟩)
    refine ⟨.tuple #[.slice none 0 0, .int .i64 (tp : Nat), .int .i64 2], ?_, ⟨_, by rw [HL.out]; rfl, by rw [HL.out]; exact World.ownsRow_nil _ _ _ _, hB.trans (belowK_b (w := w) (Nat.le_refl _) _ D _ _ (by omega) hK' rfl rfl)⟩⟩
    simp [results, Tryd.f15, go_sem, hc1, hc2, hc3]
theorem toks_ok : ∀ (f : Nat) (l : List Nat) (p : Nat), (∀ t ∈ (toks f l p).1, 0 < t.2.2 ∧ t.2.1 + t.2.2 ≤ p + l.length)
  | 0, l, p => by simp [toks]
  | f + 1, l, p => by
    rw [toks]
    split
    · simp
    · split
      · rename_i h1 h2
        intro t ht
        have := toks_ok f (l.drop 1) (p + 1) t ht
        rw [List.length_drop] at this
        omega
      · split
        · simp
        · rename_i h1 h2 h3
          intro t ht
          have hl := firstL_le l
          rcases List.mem_cons.1 ht with rfl | ht
          · dsimp only; omega
          · have := toks_ok f (l.drop (firstL l).2) (p + (firstL l).2) t ht
            rw [List.length_drop] at this
            omega
theorem ne_iff (s : ByteArray) (t : Tok) (h : t.2.1 + t.2.2 ≤ s.size) : ne s t ↔ 0 < t.2.2 := by
  unfold ne
  rw [ByteArray.toList_eq, Lib.extract_data]
  constructor
  · intro h1
    rcases Nat.eq_zero_or_pos t.2.2 with h0 | h0
    · rw [h0] at h1; simp at h1
    · exact h0
  · intro h1 h2
    have := congrArg List.length h2
    simp at this
    omega
theorem Lex_any (s : ByteArray) (w : World) : Calls Tryd.prog 15 #[.string s] w (LexPost w s (lexF (nat s))) := by
  by_cases hs : s.size ≤ 4000
  · refine (callsIn_wide (n := 3)).1 ?_
    have hok := toks_ok ((nat s).length + 1) (nat s) 0
    have hlen := nat_length s
    have hnb : ¬ 4000 < (nat s).length := by omega
    change ∀ t ∈ (toksF (nat s)).1, _ at hok
    have hlx0 : ∀ ts er, toksF (nat s) = (ts, er) → lexF (nat s) = match er with
      | some p => ([], p, 2)
      | none => if 1000 < ts.length then ([], 0, 3) else (ts, ts.length, 0) := by
      intro ts er h
      unfold lexF
      rw [if_neg hnb, h]
      cases er <;> rfl
    obtain ⟨R, hR⟩ : ∃ R, toksF (nat s) = R := ⟨_, rfl⟩
    rw [hR] at hok
    refine Lex_in 3 (Nat.le_refl _) s w hs (seqL R) (by rw [hR]) ?_ ?_
    · obtain ⟨ts, er⟩ := R
      have hlx := hlx0 ts er hR
      intro hall
      rw [hlx]
      cases er with
      | none => simp [seqL]
      | some p =>
        have := hall (0, p, 0) (by simp [seqL])
        unfold ne at this
        simp [ByteArray.toList_eq, Lib.extract_data] at this
    · obtain ⟨ts, er⟩ := R
      have hlx := hlx0 ts er hR
      intro pre t hpre hne hE
      have hmem : t ∈ seqL (ts, er) := hpre.subset (by simp)
      rw [hlx]
      have key : t ∈ ts → False := fun ht => by
        have h := hok t ht
        exact hE ((ne_iff s t (by omega)).2 h.1)
      cases er with
      | none => exact (key (by simpa [seqL] using hmem)).elim
      | some p =>
        simp only [seqL, List.mem_append, List.mem_singleton] at hmem
        rcases hmem with h | rfl
        · exact (key h).elim
        · rfl
  · have hl : lexF (nat s) = ([], 0, 3) := by unfold lexF; rw [if_pos (by rw [nat_length]; omega)]
    rw [hl]
    exact Lex_big s w (by omega)
end Go.Proofs.YtofigpjabamnhaaDoor
