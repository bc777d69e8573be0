/- TopMemory, walked . Conditions: the slice reads as acts. -/
import Derived.Test.YtdaklffbfadghaaGreatTm15
import Derived.Test.YtdaklffbfadghaaGreatTm11
namespace Go.Proofs.YtdaklffbfadghaaGreat
open Go.RowKit HP
set_option linter.unusedVariables false
set_option linter.unusedSimpArgs false
def HsOf (er at_ : Int) : List (Int × Int × Int) := if er = 0 then [(at_, at_, 77)] else []
/-- behind the block of the call's own -/
def CutB (w : World) (g : Nat) (er at_ : Int) (W : World) : Prop := ∃ m, Own w W g m ∧ Inv m ∧ m.calls ≤ 4 ∧ ∀ x ∈ HsOf er at_, Holds m x.1 x.2.1 x.2.2
theorem cutb_no {w W : World} {g : Nat} {m : HM} {er at_ : Int} (O : Own w W g m) (I : Inv m) (hc : m.calls ≤ 4) (h : (er == 0) = false) : CutB w g er at_ W := ⟨m, O, I, hc, fun x hx => by
  unfold HsOf at hx
  rw [if_neg (by simpa using h)] at hx
  cases hx⟩
theorem up3R (a b c : Rw) : [a, b, c].Perm [c, a, b] := ((List.Perm.swap c b []).cons a).trans (List.Perm.swap c a [b])
theorem start_ts {w W : World} {hb lb kb qb : Nat} {m : HM} {S : Itm} (X : ST w W hb m [newRw qb 124 [.int .i64 0], newRw (kb + 1) 121 [.map (some kb)], newRw lb 117 []] [iK kb 0 [], S]) : TS w W hb lb (kb + 1) qb kb m (newRw lb 117 []) (newRw (kb + 1) 121 [.map (some kb)]) (newRw qb 124 [.int .i64 0]) 0 [] [S] :=
  ⟨X.rperm ((up3R _ _ _).trans (List.Perm.cons _ (List.Perm.swap ..))), rfl, rfl, rfl, rfl, rfl⟩
theorem start_p3 {lb kb qb : Nat} {m : HM} {Hs : List (Int × Int × Int)} (I : Inv m) (hc : m.calls ≤ 4) (hH : ∀ x ∈ Hs, Holds m x.1 x.2.1 x.2.2) : P3 m (newRw lb 117 []) (newRw (kb + 1) 121 [.map (some kb)]) (newRw qb 124 [.int .i64 0]) [] [] [] (stretches m) Hs 0 :=
  ⟨newList_r m I _, newMap_r m I _ _, ⟨[], 0, qi_start (newQueue_r m I _)⟩, (fun p hp => by cases hp), (fun p hp => by cases hp), (fun p hp => by cases hp), rest_nil m, fun x hx => ⟨hH x hx, (fun hp => by cases hp), (fun hp => by cases hp), (fun hp => by cases hp)⟩, by omega⟩
theorem ts_same {w W : World} {hb lb pb qb kb nn c : Nat} {m : HM} {r1 r2 r3 : Rw} {kv : List (Int × Int)} {its : List Itm} {A A2 : Option Addr} {c2 : Nat} {L : List (Int × Int)} (h1 : Sl 2 encP W A2 L.length c2 L) (X : TS w W hb lb pb qb kb m r1 r2 r3 nn kv its) (h : iS w A L.length c L ∈ its) (hL : L.length ≤ 100000) :
    Calls Tryz.prog 16 #[.slice A2 L.length c2, .slice A L.length c] W fun e W' => e = .returned (.bool true) ∧ TS w W' hb lb pb qb kb m r1 r2 r3 nn kv its := by
  have ho : W.ownsRow w.heap.size 64 2 (.slice A L.length c) L.length (L.flatMap encP) := X.has h
  obtain ⟨A3, c3, e3, h2⟩ := str_sl ho
  injection e3 with e4 e5 e6
  subst e4
  subst e6
  refine (SameStr_same A2 L.length c2 A c L W h1 h2 hL).mono ?_
  rintro e W' ⟨he, hq⟩
  exact ⟨he, X.q hq⟩
theorem alloc_calls8 (m : HM) (n al : Int) : (allocM m n al).1.calls ≤ m.calls + 1 := by
  unfold allocM
  split
  · show m.calls ≤ _; omega
  · split
    · exact Int.le_refl _
    · split
      · exact Int.le_refl _
      · exact Int.le_refl _
theorem own_used2 {w0 w : World} {g : Nat} {m : HM} (O : Own w0 w g m) (I : Inv m) :
    Calls Tryz.prog 10 #[.pointer (some ⟨g, 0, none⟩)] w fun e w' => e = .returned (.int .i64 (used m.live)) ∧ Own w0 w' g m := by
  obtain ⟨h, rfl, h2, h3, rfl, h5, h6⟩ := O
  refine (used_act h w h2 I h3).mono ?_
  rintro e w' ⟨h', rfl, D, hmu, hm⟩
  have O' := Own.did (h := h) rfl h5 h6 D hmu
  rw [hm] at O'
  exact ⟨rfl, O'⟩
theorem own_store2 {w0 w : World} {g : Nat} {m : HM} (O : Own w0 w g m) (I : Inv m) (at_ b : Int) :
    Calls Tryz.prog 11 #[.pointer (some ⟨g, 0, none⟩), .int .i64 at_, .int .i64 b] w fun e w' => e = .returned (.int .i64 (storeM m at_ b).2) ∧ Own w0 w' g (storeM m at_ b).1 := by
  obtain ⟨h, rfl, h2, h3, rfl, h5, h6⟩ := O
  refine (store_act h at_ b w h2 I h3).mono ?_
  rintro e w' ⟨h', he, D, hmu, hm⟩
  exact ⟨he, by rw [← hm]; exact Own.did rfl h5 h6 D hmu⟩
/-- a block of eight, and 77 in its first byte -/
theorem own_77 {w W : World} {g : Nat} {m : HM} (I : Inv m) (hc : m.calls ≤ 3) (h : (allocM m 8 8).2.2 = 0) (O : Own w W g (storeM (allocM m 8 8).1 (allocM m 8 8).2.1 77).1) : CutB w g (allocM m 8 8).2.2 (allocM m 8 8).2.1 W := by
  have I1 := alloc_inv I 8 8
  obtain ⟨a1, a2, a3, a4, a5, a6, a7, a8⟩ := alloc_yes I h
  obtain ⟨v, hv⟩ := Has.byte (m := (allocM m 8 8).1) (bg := (allocM m 8 8).2.1) (n := 8) a2 (Int.le_refl _) (by omega)
  obtain ⟨-, St⟩ := store_in I1 hv (b := 77) (by omega)
  refine ⟨_, O, St.inv, by rw [St.calls, a7]; omega, fun x hx => ?_⟩
  unfold HsOf at hx
  rw [if_pos h, List.mem_singleton] at hx
  subst hx
  exact St.here
def isPairT (B n : Nat) (xs ys : List Value) (v : Value) (W : World) : Prop := ∃ u1 u2, v = .agg #[u1, u2] ∧ W.ownsRow B 3 1 u1 n xs ∧ W.ownsRow B 3 1 u2 n ys ∧ ∀ g, u1.ownBlock = some g → u2.ownBlock ≠ some g
theorem mono_pairT (B n : Nat) (xs ys : List Value) : Ri.Mono (isPairT B n xs ys) := fun _ _ _ ⟨u1, u2, e, h1, h2, h3⟩ hq => ⟨u1, u2, e, own_q h1 hq, own_q h2 hq, h3⟩
def isBoxT (t : TypeId) (B : Nat) (v : Value) (W : World) : Prop := ∃ b, v = .pointer (some ⟨b, 0, none⟩) ∧ B ≤ b ∧ W.heap[b]? = some (.cells #[.slice none 0 0, .slice none 0 0] t (0, 0))
theorem mono_boxT (t : TypeId) (B : Nat) : Ri.Mono (isBoxT t B) := fun _ _ _ ⟨b, e, h1, h2⟩ hq => ⟨b, e, h1, (hq.below.block _ (blk_lt h2)).trans h2⟩
def gT (i : Nat) : Nat := if i = 0 ∨ i = 3 then 1 else if i = 4 ∨ i = 7 then 2 else 0
theorem run_allocTM {o : Oper} {A : Act} {W : World} (ho : o.op = .alloc 49) : (execOp A.eval o).run Tryz.prog W = .ok (.value (.pointer (some ⟨W.heap.size, 0, none⟩))) (W.alloc (.cells #[.slice none 0 0, .slice none 0 0] 49)) := by
  unfold execOp
  simp only [ho]
  have h : (Instr.alloc 49 true (.tuple #[])).run Tryz.prog W = .ok (.pointer (some ⟨W.heap.size, 0, none⟩)) (W.alloc (.cells #[.slice none 0 0, .slice none 0 0] 49)) := by kernel_rfl
  simp [Sem.run_bind, h, Result.andThen]
theorem run_allocTQ {o : Oper} {A : Act} {W : World} (ho : o.op = .alloc 51) : (execOp A.eval o).run Tryz.prog W = .ok (.value (.pointer (some ⟨W.heap.size, 0, none⟩))) (W.alloc (.cells #[.slice none 0 0, .slice none 0 0] 51)) := by
  unfold execOp
  simp only [ho]
  have h : (Instr.alloc 51 true (.tuple #[])).run Tryz.prog W = .ok (.pointer (some ⟨W.heap.size, 0, none⟩)) (W.alloc (.cells #[.slice none 0 0, .slice none 0 0] 51)) := by kernel_rfl
  simp [Sem.run_bind, h, Result.andThen]
/-- the document's empty ones, made -/
theorem start_pt {w W : World} {hb lb pb qb kb : Nat} {m : HM} {r1 r2 r3 : Rw} {S : Itm} {B : List (Int × Int)} {Hs : List (Int × Int × Int)} (X : TS w W hb lb pb qb kb m r1 r2 r3 0 [] [S]) (P : P3 m r1 r2 r3 [] [] [] B Hs 0) :
    PT w hb lb pb qb kb W.heap.size (W.heap.size + 1) (W.heap.size + 1 + 1) S B Hs 0 (((W.alloc (.cells #[.slice none 0 0] 47)).alloc (.cells #[.slice none 0 0, .slice none 0 0] 49)).alloc (.cells #[.slice none 0 0, .slice none 0 0] 51)) := by
  have a1 := X.newL (ya := []) ((Q.refl W).alloc _) (heap_alloc_new W (.cells #[.slice none 0 0] 47)) (Nat.le_refl _) (World.ownsRow_nil _ _ _ _)
  have a2 := a1.newM (yb := []) ((Q.refl _).alloc _) (heap_alloc_new _ (.cells #[.slice none 0 0, .slice none 0 0] 49)) (Nat.le_refl _) (World.ownsRow_nil _ _ _ _) (World.ownsRow_nil _ _ _ _) (fun g e => by cases e)
  have a3 := a2.newQ (yb := []) ((Q.refl _).alloc _) (heap_alloc_new _ (.cells #[.slice none 0 0, .slice none 0 0] 51)) (Nat.le_refl _) (World.ownsRow_nil _ _ _ _) (World.ownsRow_nil _ _ _ _) (fun g e => by cases e)
  simp at a3
  exact ⟨m, r1, r2, r3, [], [], [], _, _, _, _, _, a3.perm ((up3 _ _ _ _).trans (List.Perm.cons _ (List.Perm.swap ..))), P⟩
set_option maxHeartbeats 8000000 in
set_option maxRecDepth 100000 in
theorem memory_any (x0 x1 x2 x3 x4 : Int) (v : SlV Ask3) (w : World) (hS : SlOk 3 encA okA w v) : Calls Tryz.prog 3 #[.agg #[.int .i64 x0, .int .i64 x1, .int .i64 x2, .int .i64 x3, .int .i64 x4], v.val] w fun e w' => e = .returned (.bool true) ∧ Q w w' := by
  obtain ⟨A, n, c, l⟩ := v
  unfold SlV.val
  have hcap := hS.sl.cap
  have hbig := hS.big
  dsimp only at hcap hbig
  have HSL := hide hS.sl
  clear hS
  dsimp only at HSL
  obtain ⟨M0, eM0⟩ : ∃ M0, M0 = newM 0 64 0 := ⟨_, rfl⟩
  obtain ⟨M1, eM1⟩ : ∃ M1, M1 = (allocM M0 4 4).1 := ⟨_, rfl⟩
  have I0 : Inv M0 := by rw [eM0]; exact newM_inv (by decide)
  have I1 : Inv M1 := by rw [eM1]; exact alloc_inv I0 4 4
  have HN0 : Hid (∀ W, Calls Tryz.prog 8 #[.int .i64 0, .int .i64 64, .int .i64 0] W fun e w' => ∃ g, e = .returned (.tuple #[.pointer (some ⟨g, 0, none⟩), .int .i64 0]) ∧ Own W w' g M0) := fun W => by
    rw [eM0]
    exact own_new (by decide) W
  have HA0 : Hid (∀ w0 W g, Own w0 W g M0 → Calls Tryz.prog 9 #[.pointer (some ⟨g, 0, none⟩), .int .i64 4, .int .i64 4] W fun e w' => e = .returned (.tuple #[.int .i64 0, .int .i64 0]) ∧ Own w0 w' g M1) := fun w0 W g O => by
    have := own_alloc O I0 (by rw [eM0]; decide) 4 4
    rw [show (allocM M0 4 4).2.1 = 0 by rw [eM0]; kernel_rfl, show (allocM M0 4 4).2.2 = 0 by rw [eM0]; kernel_rfl, ← eM1] at this
    exact this
  have HU0 : Hid (∀ w0 W g, Own w0 W g M1 → Calls Tryz.prog 10 #[.pointer (some ⟨g, 0, none⟩)] W fun e w' => e = .returned (.int .i64 4) ∧ Own w0 w' g M1) := fun w0 W g O => by
    have := own_used2 O I1
    rw [show used M1.live = 4 by rw [eM1, eM0]; kernel_rfl] at this
    exact this
  clear eM0 eM1 I0 I1
  go_enter Tryz.func3, Tryz.ntmps3
  go_upto_region 7 with (first
    | (go_at_call 8; refine (HN0.out _).mono ?_; rintro e w1 ⟨g0, rfl, hO⟩; have HO1 := hide hO; clear hO)
    | (go_at_call 9; refine (HA0.out _ _ _ HO1.out).mono ?_; rintro e w2 ⟨rfl, hO⟩; have HO2 := hide hO; clear hO)
    | (go_at_call 10; refine (HU0.out _ _ _ HO2.out).mono ?_; rintro e w3 ⟨rfl, hO⟩; have HO3 := hide hO; clear hO))
  have hq3 := HO3.out.toQ
  have hb0 := (hq3.below.block w.heap.size (by simp)).trans (heap_alloc_new w _)
  have d0 : w3.cell? ⟨w.heap.size, 0, none⟩ = some (.int .i64 x0) := by rw [cell_of_row _ _ _ _ _ _ hb0]; rfl
  have d1 : w3.cell? ⟨w.heap.size, 1, none⟩ = some (.int .i64 x1) := by rw [cell_of_row _ _ _ _ _ _ hb0]; rfl
  have d2 : w3.cell? ⟨w.heap.size, 2, none⟩ = some (.int .i64 x2) := by rw [cell_of_row _ _ _ _ _ _ hb0]; rfl
  have hbl := blk_lt hb0
  have HQ3 := hide (((Q.refl w).alloc _).trans hq3)
  clear HO1 HO2 HO3 HN0 HA0 HU0 hq3 hb0
  clear M0 M1 w1 w2
  go_wp2_with fail
  refine (new_any x0 x1 x2 _).mono ?_
  rintro e w4 (⟨-, rfl, hq4⟩ | ⟨hsh, h, rfl, H4, hmu4, hm4, hq4, hf4⟩)
  · go_wp2_with fail
    go_ret
    exact ⟨rfl, HQ3.out.trans hq4⟩
  have I : Inv (newM x0 x1 x2) := newM_inv hsh
  have hc0 : (newM x0 x1 x2).calls ≤ 3 := by
    unfold newM
    simp
  have hO : Own w w4 h.blk (newM x0 x1 x2) := ⟨h, rfl, H4, hmu4, hm4, HQ3.out.trans hq4, fun b e => Nat.le_trans HQ3.out.size (hf4 b e)⟩
  unfold Hp.ptr
  obtain ⟨g, eg⟩ : ∃ g, g = h.blk := ⟨_, rfl⟩
  rw [← eg] at hO ⊢
  obtain ⟨m, em⟩ : ∃ m, m = newM x0 x1 x2 := ⟨_, rfl⟩
  rw [← em] at hO I hc0
  have HO := hide hO
  clear H4 hmu4 hm4 hf4 hO eg em d0 d1 d2 hbl
  have hdg : (200 : Nat) < n ∨ ¬ 200 < n := by omega
  rcases hdg with hdg | hdg
  · have hd : decide ((200 : Int) < (n : Int)) = true := by simp; omega
    go_wp2_with fail
    go_ret
    exact ⟨rfl, HO.out.toQ⟩
  have hd : decide ((200 : Int) < (n : Int)) = false := by simp; omega
  obtain ⟨at_, eat⟩ : ∃ at_, at_ = (allocM m 8 8).2.1 := ⟨_, rfl⟩
  obtain ⟨er, eer⟩ : ∃ er, er = (allocM m 8 8).2.2 := ⟨_, rfl⟩
  have HAL : Hid (Calls Tryz.prog 9 #[.pointer (some ⟨g, 0, none⟩), .int .i64 8, .int .i64 8] w4 fun e w' => e = .returned (.tuple #[.int .i64 at_, .int .i64 er]) ∧ Own w w' g (allocM m 8 8).1) := by
    have := own_alloc HO.out I (by omega) 8 8
    rw [← eat, ← eer] at this
    exact this
  have HST : Hid (∀ W, Own w W g (allocM m 8 8).1 → (er == 0) = true → Calls Tryz.prog 11 #[.pointer (some ⟨g, 0, none⟩), .int .i64 at_, .int .i64 77] W fun e w' => (∃ u, e = .returned (.int .i64 u)) ∧ CutB w g er at_ w') := fun W O h0 => by
    have h0 : er = 0 := by simpa using h0
    rw [eer] at h0
    rw [eat, eer]
    refine (own_store2 O (alloc_inv I 8 8) _ 77).mono ?_
    rintro e W' ⟨he, O'⟩
    exact ⟨⟨_, he⟩, own_77 I hc0 h0 O'⟩
  have HNO : Hid (∀ W, Own w W g (allocM m 8 8).1 → (er == 0) = false → CutB w g er at_ W) := fun W O h0 => cutb_no O (alloc_inv I 8 8) (by have := alloc_calls8 m 8 8; omega) h0
  have hdn : n ≤ 200 := by omega
  clear eat eer hdg hcap hbig HO I hc0 HQ3 hq4 hsh
  go_upto_if 77 with (go_at_call 9; refine HAL.out.mono ?_; rintro e w5 ⟨rfl, hO5⟩; have HO5 := hide hO5; clear hO5)
  go_cut [10] (fun t10 wx => t10 = .int .i64 at_ ∧ CutB w g er at_ wx)
  case first =>
    cases k0 : (er == 0) with
    | true =>
      go_wp2_with (go_at_call 11; refine (HST.out _ HO5.out k0).mono ?_; rintro e w6 ⟨⟨u, rfl⟩, hX⟩; have HX6 := hide hX; clear hX)
      go_meet
      exact ⟨rfl, HX6.out⟩
    | false =>
      go_wp2_with fail
      go_meet
      exact ⟨rfl, HNO.out _ HO5.out k0⟩
  case rest =>
    obtain ⟨rfl, hX⟩ := hcut
    clear HAL HST HNO HO5
    clear m
    obtain ⟨m, O, I, hc, hH⟩ := hX
    have HLV : Hid (Calls Tryz.prog 12 #[.pointer (some ⟨g, 0, none⟩)] wc fun e w' => ∃ A c, e = .returned (.slice A (stretches m).length c) ∧ BG w g m (iS w A (stretches m).length c (stretches m)) w') := bg_live O I
    have hL : (stretches m).length ≤ 100000 := by
      have := I.len
      unfold stretches
      rw [List.length_map]
      omega
    obtain ⟨sn, esn⟩ : ∃ sn, sn = (stretches m).length := ⟨_, rfl⟩
    have HSN := hide esn
    have HI := hide I
    rw [← esn] at HLV
    clear O I esn
    go_upto_region 17 with (first
      | (go_at_call 12; refine HLV.out.mono ?_; rintro e w7 ⟨A9, c9, rfl, hX⟩; have HX7 := hide hX; clear hX)
      | (go_at_call 13; refine (bg_list HX7.out).mono ?_; rintro e w8 ⟨rfl, hX⟩; have HX8 := hide hX; clear hX)
      | (go_at_call 14; refine (bg_map HX8.out).mono ?_; rintro e w9 ⟨rfl, hX⟩; have HX9 := hide hX; clear hX)
      | (go_at_call 15; refine (bg_queue HX9.out).mono ?_; rintro e w10 ⟨rfl, hX⟩; have HX10 := hide hX; clear hX))
    have HT : Hid (TS w w10 g w7.heap.size (w8.heap.size + 1) w9.heap.size w8.heap.size m (newRw w7.heap.size 117 []) (newRw (w8.heap.size + 1) 121 [.map (some w8.heap.size)]) (newRw w9.heap.size 124 [.int .i64 0]) 0 [] [iS w A9 sn c9 (stretches m)]) := start_ts HX10.out
    have HP : Hid (P3 m (newRw w7.heap.size 117 []) (newRw (w8.heap.size + 1) 121 [.map (some w8.heap.size)]) (newRw w9.heap.size 124 [.int .i64 0]) [] [] [] (stretches m) (HsOf er at_) 0) := start_p3 HI.out hc hH
    clear HX7 HX8 HX9 HX10 HLV
    obtain ⟨lb, elb⟩ : ∃ lb, lb = w7.heap.size := ⟨_, rfl⟩
    obtain ⟨kb, ekb⟩ : ∃ kb, kb = w8.heap.size := ⟨_, rfl⟩
    obtain ⟨pb, epb⟩ : ∃ pb, pb = w8.heap.size + 1 := ⟨_, rfl⟩
    obtain ⟨qb, eqb⟩ : ∃ qb, qb = w9.heap.size := ⟨_, rfl⟩
    obtain ⟨r1, er1⟩ : ∃ r1, r1 = newRw w7.heap.size 117 [] := ⟨_, rfl⟩
    obtain ⟨r2, er2⟩ : ∃ r2, r2 = newRw (w8.heap.size + 1) 121 [.map (some w8.heap.size)] := ⟨_, rfl⟩
    obtain ⟨r3, er3⟩ : ∃ r3, r3 = newRw w9.heap.size 124 [.int .i64 0] := ⟨_, rfl⟩
    rw [← er1, ← er2, ← er3] at HT HP
    rw [← elb, ← epb, ← eqb, ← ekb] at HT
    rw [← elb, ← epb, ← eqb]
    clear er1 er2 er3 elb ekb epb eqb
    have HLV : Hid (Calls Tryz.prog 12 #[.pointer (some ⟨g, 0, none⟩)] w10 fun e W' => ∃ A c, e = .returned (.slice A sn c) ∧ Sl 2 encP W' A sn c (stretches m) ∧ TS w W' g lb pb qb kb m r1 r2 r3 0 [] [iS w A9 sn c9 (stretches m)]) := by
      have h := ts_live HT.out HI.out
      rw [← HSN.out] at h
      refine h.mono ?_
      rintro e W' ⟨⟨A, c, he, hS⟩, hX⟩
      exact ⟨A, c, he, hS, hX⟩
    have HSM : Hid (∀ W A c, Sl 2 encP W A sn c (stretches m) → TS w W g lb pb qb kb m r1 r2 r3 0 [] [iS w A9 sn c9 (stretches m)] → Calls Tryz.prog 16 #[.slice A sn c, .slice A9 sn c9] W fun e W' => e = .returned (.bool true) ∧ TS w W' g lb pb qb kb m r1 r2 r3 0 [] [iS w A9 sn c9 (stretches m)]) := fun W A c h1 X => by
      rw [HSN.out] at h1 X ⊢
      exact ts_same h1 X (.head _) hL
    go_wp2_with (first
      | (go_at_call 12; refine HLV.out.mono ?_; rintro e w11 ⟨A8, c8, rfl, hS8, hX⟩; have HS8 := hide hS8; have HX11 := hide hX; clear hX hS8)
      | (go_at_call 16; refine (HSM.out _ _ _ HS8.out HX11.out).mono ?_; rintro e w12 ⟨rfl, hX⟩; have HX12 := hide hX; clear hX))
    have HP0 := hide (start_pt HX12.out HP.out)
    obtain ⟨cb, ecb⟩ : ∃ cb, cb = w12.heap.size + 1 + 1 := ⟨_, rfl⟩
    obtain ⟨bb, ebb⟩ : ∃ bb, bb = w12.heap.size + 1 := ⟨_, rfl⟩
    obtain ⟨ab, eab⟩ : ∃ ab, ab = w12.heap.size := ⟨_, rfl⟩
    obtain ⟨w13, ew13⟩ : ∃ w13, w13 = ((w12.alloc (.cells #[.slice none 0 0] 47)).alloc (.cells #[.slice none 0 0, .slice none 0 0] 49)).alloc (.cells #[.slice none 0 0, .slice none 0 0] 51) := ⟨_, rfl⟩
    rw [← ecb, ← ebb, ← eab, ← ew13] at HP0
    rw [← ecb, ← ebb, ← eab, ← ew13]
    obtain ⟨B, eB⟩ : ∃ B, B = stretches m := ⟨_, rfl⟩
    obtain ⟨S, eS⟩ : ∃ S, S = iS w A9 sn c9 (stretches m) := ⟨_, rfl⟩
    have HES : Hid (S = iS w A9 sn c9 B ∧ sn = B.length ∧ B.length ≤ 100000) := by rw [eB]; exact ⟨eS, HSN.out, hL⟩
    rw [← eS, ← eB] at HP0
    clear ecb ebb eab ew13 eB eS HT HP HLV HSM HX11 HX12 HS8 HSN HI hH hc hL
    clear r1 r2 r3
    obtain ⟨Hs, eHs⟩ : ∃ Hs, Hs = HsOf er at_ := ⟨_, rfl⟩
    have HHS := hide eHs
    rw [← eHs] at HP0
    clear eHs
    go_loopg [21] n (fun gg vi wr => ∃ i : Nat, i + gg = n ∧ vi = .int .i64 (i : Int) ∧ i ≤ n ∧ PT w g lb pb qb kb ab bb cb S B Hs i wr)
    case atStart => exact ⟨0, by omega, by go_num, by omega, HP0.out⟩
    case round =>
      clear HP0
      obtain ⟨i, hig, rfl, hin, hp⟩ := hrel
      by_cases hlt : i < n
      · have hd1 : decide ((i : Int) < (n : Int)) = true := by simp; omega
        have hd0 : decide (i < n) = true := by simp; omega
        have hlti : (i : Int) < (n : Int) := by omega
        obtain ⟨ba, oa, op, a1, b1, eA, hba, -, d0, d1, d2⟩ := (HSL.out.up (PT.toQ hp)).ask i hlt
        subst eA
        obtain ⟨m, r1, r2, r3, xs, kv, zs, vL, vk, vv, wk, wv, X, P⟩ := hp
        have L0 : wr.heap[ab]? = some (.cells #[vL] 47 (0, 0)) ∧ wr.ownsRow w.heap.size 3 1 vL xs.length (intsV xs) := X.has (.head _)
        obtain ⟨hm, hv⟩ := L0
        have cM : wr.cell? ⟨ab, 0, none⟩ = some vL := by rw [cell_of_row _ _ _ _ _ _ hm]; rfl
        have hml := blk_lt hm
        obtain ⟨A1, c1, ev, hc1, hc2, hxl, hrd⟩ := own_form hv
        have hA1 : A1 = none → xs.length = 0 ∧ c1 = 0 := fun e => by
          subst e
          rcases hv.2 with ⟨h0, -⟩ | ⟨g, cap, cur, h0, -⟩
          · rw [ev] at h0
            injection h0 with _ h1 h2
            exact ⟨h1, h2⟩
          · rw [ev] at h0
            cases h0
        subst ev
        have hS64 : xs.length ≤ 64 := P.l.fit64
        obtain ⟨la, ela⟩ : ∃ la, la = xs.length := ⟨_, rfl⟩
        have HLA := hide ela
        rw [← ela] at cM hS64
        have HA1 : Hid (A1 = none → la = 0 ∧ c1 = 0) := by rw [ela]; exact hA1
        have HRD : Hid (Rd wr wr.heap.size A1 (intsV xs)) := hrd
        have HXL : Hid ((intsV xs).length = la * 1) := by rw [ela]; exact hxl
        have HX := hide X
        have HP := hide P
        clear X P hm hv hc1 hc2 hxl hrd hA1 ela
        go_upto_region 27 with (at_builtin; go_loud (refine wpList_appsn rfl El_int _ _ rfl rfl (own_lit0 _ (wr.heap.size + 1) _ 1 _ (by simp) (by simp)) (fun e => by cases e) rfl HA1.out HXL.out (HRD.out.up (((Q.refl _).alloc _).alloc _)) (intsV_cell xs) ?_ ?_ ?_; (focus omega); (focus (simp)); intro v9 w9 hown9 hb9 hn9; simp only [Nat.zero_add, List.nil_append] at hown9; obtain ⟨g9, c9, e9⟩ := own_some hown9 hn9; subst e9; have HO9 := hide hown9; have hq9 := q_below ((Q.refl (wr.alloc (.cells #[.int .i64 op, .int .i64 a1, .int .i64 b1] 53))).alloc _) hb9 (by simp); have HQ9 := hide hq9; obtain ⟨e90, e91, e92, hs9⟩ := act_cells hq9; clear hown9 hb9 hn9 hq9))
        have HT1 : Hid (TS w (w9.alloc (.cells #[.slice (some ⟨g9, 0, none⟩) la c9] 47)) g lb pb qb kb m r1 r2 r3 i kv [iL w.heap.size w9.heap.size (.slice (some ⟨g9, 0, none⟩) la c9) xs, iB wr.heap.size 53 #[.int .i64 op, .int .i64 a1, .int .i64 b1], iL w.heap.size ab (.slice A1 xs.length c1) xs, iM w.heap.size bb vk vv kv, iQ w.heap.size cb wk wv zs, S]) := by
          have y1 := HX.out.box ((Q.refl wr).alloc _) (heap_alloc_new wr (.cells #[.int .i64 op, .int .i64 a1, .int .i64 b1] 53)) (Nat.le_refl _)
          have h := HO9.out
          rw [HLA.out] at h ⊢
          exact y1.newL (HQ9.out.trans ((Q.refl _).alloc _)) (heap_alloc_new w9 _) HQ9.out.size (own_q (by simpa using h) ((Q.refl _).alloc _))
        clear e90 e91 e92 hs9 HQ9 HO9 HRD HXL HA1 d0 d1 d2 cM HSL hba HX hml
        obtain ⟨wa, ewa⟩ : ∃ wa, wa = w9.alloc (.cells #[.slice (some ⟨g9, 0, none⟩) la c9] 47) := ⟨_, rfl⟩
        obtain ⟨db, edb⟩ : ∃ db, db = w9.heap.size := ⟨_, rfl⟩
        obtain ⟨tb, etb⟩ : ∃ tb, tb = wr.heap.size := ⟨_, rfl⟩
        rw [← ewa, ← edb, ← etb] at HT1
        rw [← ewa, ← edb, ← etb]
        clear ewa edb etb
        obtain ⟨A2, c2, A3, c3, ek, ev, hMO, hK, hV⟩ := om_copy (HT1.out.has (.tail _ (.tail _ (.tail _ (.head _)))))
        have m64 : kv.length ≤ 64 := HP.out.mp.l64
        obtain ⟨lm, elm⟩ : ∃ lm, lm = kv.length := ⟨_, rfl⟩
        have HLMk : Hid (lm = (keysOf kv).length) := by rw [elm]; unfold keysOf; rw [List.length_map]; exact rfl
        have HLMv : Hid (lm = (valsOf kv).length) := by rw [elm]; unfold valsOf; rw [List.length_map]; exact rfl
        rw [← elm] at hMO hK hV ek ev m64
        have HMO := hide hMO
        have HK := hide hK
        have HV := hide hV
        have HEK := hide ek
        have HEV := hide ev
        clear hMO hK hV ek ev elm
        refine Ri.made_lastP gT (Ri.phi [(isLit wa.heap.size), Ri.isV (.pointer (some ⟨bb, 0, none⟩)), Ri.isV (.slice A2 lm c2), (isOwnI wa.heap.size lm (intsV (keysOf kv))), (isLit wa.heap.size), Ri.isV (.pointer (some ⟨bb, 1, none⟩)), Ri.isV (.slice A3 lm c3), (isOwnI wa.heap.size lm (intsV (valsOf kv))), (isPairT wa.heap.size lm (intsV (keysOf kv)) (intsV (valsOf kv))), (isBoxT 49 wa.heap.size)]) (by kernel_rfl) (by kernel_rfl) rfl (by kernel_rfl) rfl (Ri.phi_mono ?_) ?_ ?_
        · exact ⟨mono_lit _, Ri.mono_isV _, Ri.mono_isV _, mono_ownI _ _ _, mono_lit _, Ri.mono_isV _, Ri.mono_isV _, mono_ownI _ _ _, mono_pairT _ _ _ _, mono_boxT _ _, trivial⟩
        · refine Ri.All.cons ?_ (Ri.All.cons ?_ (Ri.All.cons ?_ (Ri.All.cons ?_ (Ri.All.cons ?_ (Ri.All.cons ?_ (Ri.All.cons ?_ (Ri.All.cons ?_ (Ri.All.cons ?_ (Ri.All.cons ?_ (Ri.All.nil))))))))))
          · refine ⟨rfl, fun f W hq hf hD A hA hB hO => ?_⟩
            exact Ri.wp_litD El_int rfl ⟨_, rfl, own_lit0 W _ _ _ _ rfl ((Q.refl wa).drew.trans hq).size⟩
          · refine Ri.StepD.g rfl ⟨rfl, fun f W hq hf A hA hB hO => ?_⟩
            have e1 := (hB 19 (by kernel_rfl)).trans (show _ = .pointer (some ⟨bb, 0, none⟩) by simp [Act.eval])
            exact Ri.wp_value _ (Ri.run_fld (f := _) rfl e1 Tryz.underlying49 rfl (sz := 0) (by kernel_rfl)) rfl
          · refine Ri.StepD.g rfl ⟨rfl, fun f W hq hf A hA hB hO => ?_⟩
            have e1 := (hA 131 1 (by kernel_rfl) (by simp)).trans (show f 1 = _ from hf 1 (by kernel_rfl))
            exact Ri.wp_value _ (Ri.run_ld1 rfl e1 Tryz.underlying45 rfl ((HMO.out _ ((Q.refl wa).drew.trans hq)).1)) rfl
          · refine ⟨rfl, fun f W hq hf hD A hA hB hO => ?_⟩
            obtain ⟨b0, hb, hw⟩ : isLit wa.heap.size (f 0) W := hf 0 (by kernel_rfl)
            have e1 := (hA 130 0 (by kernel_rfl) (by simp)).trans hb
            have e2 := (hA 132 2 (by kernel_rfl) (by simp)).trans (show f 2 = _ from hf 2 (by kernel_rfl))
            have hqW := (Q.refl wa).drew.trans hq
            exact Ri.wp_appendD (jj := 0) El_int _ _ rfl e1 e2 hw HK.out.1 HK.out.2.1 (HK.out.2.2 _ hqW) (intsV_cell _) (by omega) hqW.size (by kernel_rfl) rfl hb (fun v w3 h => h)
          · refine ⟨rfl, fun f W hq hf hD A hA hB hO => ?_⟩
            exact Ri.wp_litD El_int rfl ⟨_, rfl, own_lit0 W _ _ _ _ rfl ((Q.refl wa).drew.trans hq).size⟩
          · refine Ri.StepD.g rfl ⟨rfl, fun f W hq hf A hA hB hO => ?_⟩
            have e1 := (hB 19 (by kernel_rfl)).trans (show _ = .pointer (some ⟨bb, 0, none⟩) by simp [Act.eval])
            exact Ri.wp_value _ (Ri.run_fld (f := _) rfl e1 Tryz.underlying49 rfl (sz := 0) (by kernel_rfl)) rfl
          · refine Ri.StepD.g rfl ⟨rfl, fun f W hq hf A hA hB hO => ?_⟩
            have e1 := (hA 135 5 (by kernel_rfl) (by simp)).trans (show f 5 = _ from hf 5 (by kernel_rfl))
            exact Ri.wp_value _ (Ri.run_ld1 rfl e1 Tryz.underlying45 rfl ((HMO.out _ ((Q.refl wa).drew.trans hq)).2)) rfl
          · refine ⟨rfl, fun f W hq hf hD A hA hB hO => ?_⟩
            obtain ⟨b0, hb, hw⟩ : isLit wa.heap.size (f 4) W := hf 4 (by kernel_rfl)
            have e1 := (hA 134 4 (by kernel_rfl) (by simp)).trans hb
            have e2 := (hA 136 6 (by kernel_rfl) (by simp)).trans (show f 6 = _ from hf 6 (by kernel_rfl))
            have hqW := (Q.refl wa).drew.trans hq
            exact Ri.wp_appendD (jj := 4) El_int _ _ rfl e1 e2 hw HV.out.1 HV.out.2.1 (HV.out.2.2 _ hqW) (intsV_cell _) (by omega) hqW.size (by kernel_rfl) rfl hb (fun v w3 h => h)
          · refine ⟨rfl, fun f W hq hf hD A hA hB hO => ?_⟩
            have o3 : isOwnI wa.heap.size lm (intsV (keysOf kv)) (f 3) W := hf 3 (by kernel_rfl)
            have o7 : isOwnI wa.heap.size lm (intsV (valsOf kv)) (f 7) W := hf 7 (by kernel_rfl)
            have hap : ∀ g, (f 3).ownBlock = some g → (f 7).ownBlock ≠ some g := fun g hg => hD 3 7 (by show _ = true; kernel_rfl) (by show _ = true; kernel_rfl) (by decide) (by decide) (by decide) g hg
            have e1 := hA 133 3 (by kernel_rfl) (by simp)
            have e2 := hA 137 7 (by kernel_rfl) (by simp)
            obtain ⟨u1, hu1⟩ : ∃ u1, u1 = f 3 := ⟨_, rfl⟩
            obtain ⟨u2, hu2⟩ : ∃ u2, u2 = f 7 := ⟨_, rfl⟩
            rw [← hu1] at o3 e1 hap
            rw [← hu2] at o7 e2 hap
            obtain ⟨X1, y1, e3, -⟩ := own_form o3
            obtain ⟨X2, y2, e4, -⟩ := own_form o7
            subst e3
            subst e4
            exact Ri.wp_structD rfl rfl [(0, .slice X1 lm y1), (1, .slice X2 lm y2)] (by simp [e1, e2]) (by kernel_rfl) ⟨_, _, rfl, o3, o7, hap⟩
          · refine Ri.StepD.g rfl ⟨rfl, fun f W hq hf A hA hB hO => ?_⟩
            refine Ri.wp_val (.pointer (some ⟨W.heap.size, 0, none⟩)) (run_allocTM rfl) ((Q.refl _).alloc _) ?_
            exact ⟨_, rfl, ((Q.refl wa).drew.trans hq).size, heap_alloc_new _ _⟩
        · intro f W hq hf A hAe hA hB
          obtain ⟨u1, u2, e8, o1, o2, hap⟩ : isPairT wa.heap.size lm (intsV (keysOf kv)) (intsV (valsOf kv)) (f 8) W := hf 8 (by simp)
          obtain ⟨nb, e9, hnb, hbx⟩ : isBoxT 49 wa.heap.size (f 9) W := hf 9 (by simp)
          have e1 := (hA 24 9 (by kernel_rfl) (by simp)).trans e9
          have e2 := (hA 138 8 (by kernel_rfl) (by simp)).trans e8
          have o1x := o1
          rw [HLMk.out] at o1x
          have o2x := o2
          rw [HLMv.out] at o2x
          have hT2 := HT1.out.copyM hq hbx hnb o1x o2x hap
          obtain ⟨M1, yM1, e3, -⟩ := own_form o1
          obtain ⟨M2, yM2, e4, -⟩ := own_form o2
          subst e3
          subst e4
          refine wp_store_row _ _ _ rfl nb #[.slice M1 lm yM1, .slice M2 lm yM2] e1 e2 _ _ hbx (by kernel_rfl) rfl (by simp [Value.oneCell']) ⟨undef, rfl, ?_⟩
          rw [hAe]
          simp only [Ri.acts, Act.put, List.setIfInBounds_toArray, List.set_cons_zero, List.set_cons_succ, Nat.zero_add, Nat.reduceAdd]
          rw [e9]
          have HT2 := hide hT2
          clear hT2 hq hf hA hB hAe e1 e2 e8 e9 o1 o2 o1x o2x hap hbx hnb HT1 HMO HK HV
          obtain ⟨wa, ewa⟩ : ∃ wa, wa = W.setRow nb #[.slice M1 lm yM1, .slice M2 lm yM2] := ⟨_, rfl⟩
          obtain ⟨eb, eeb⟩ : ∃ eb, eb = nb := ⟨_, rfl⟩
          rw [← ewa, ← eeb] at HT2
          rw [← ewa, ← eeb]
          clear ewa eeb
          obtain ⟨A4, c4, A5, c5, ek, ev, hMO, hK, hV⟩ := oq_copy (HT2.out.has (.tail _ (.tail _ (.tail _ (.tail _ (.tail _ (.head _)))))))
          have q64 : zs.length ≤ 64 := by
            obtain ⟨Ls, t, q⟩ := HP.out.qu
            exact q.l64
          obtain ⟨lq, elq⟩ : ∃ lq, lq = zs.length := ⟨_, rfl⟩
          have HLQk : Hid (lq = (keysOf zs).length) := by rw [elq]; unfold keysOf; rw [List.length_map]; exact rfl
          have HLQv : Hid (lq = (valsOf zs).length) := by rw [elq]; unfold valsOf; rw [List.length_map]; exact rfl
          rw [← elq] at hMO hK hV ek ev q64
          have HMO := hide hMO
          have HK := hide hK
          have HV := hide hV
          have HEK2 := hide ek
          have HEV2 := hide ev
          clear hMO hK hV ek ev elq
          go_upto_region 28 with fail
          refine Ri.made_lastP gT (Ri.phi [(isLit wa.heap.size), Ri.isV (.pointer (some ⟨cb, 0, none⟩)), Ri.isV (.slice A4 lq c4), (isOwnI wa.heap.size lq (intsV (keysOf zs))), (isLit wa.heap.size), Ri.isV (.pointer (some ⟨cb, 1, none⟩)), Ri.isV (.slice A5 lq c5), (isOwnI wa.heap.size lq (intsV (valsOf zs))), (isPairT wa.heap.size lq (intsV (keysOf zs)) (intsV (valsOf zs))), (isBoxT 51 wa.heap.size)]) (by kernel_rfl) (by kernel_rfl) rfl (by kernel_rfl) rfl (Ri.phi_mono ?_) ?_ ?_
          · exact ⟨mono_lit _, Ri.mono_isV _, Ri.mono_isV _, mono_ownI _ _ _, mono_lit _, Ri.mono_isV _, Ri.mono_isV _, mono_ownI _ _ _, mono_pairT _ _ _ _, mono_boxT _ _, trivial⟩
          · refine Ri.All.cons ?_ (Ri.All.cons ?_ (Ri.All.cons ?_ (Ri.All.cons ?_ (Ri.All.cons ?_ (Ri.All.cons ?_ (Ri.All.cons ?_ (Ri.All.cons ?_ (Ri.All.cons ?_ (Ri.All.cons ?_ (Ri.All.nil))))))))))
            · refine ⟨rfl, fun f W hq hf hD A hA hB hO => ?_⟩
              exact Ri.wp_litD El_int rfl ⟨_, rfl, own_lit0 W _ _ _ _ rfl ((Q.refl wa).drew.trans hq).size⟩
            · refine Ri.StepD.g rfl ⟨rfl, fun f W hq hf A hA hB hO => ?_⟩
              have e1 := (hB 20 (by kernel_rfl)).trans (show _ = .pointer (some ⟨cb, 0, none⟩) by simp [Act.eval])
              exact Ri.wp_value _ (Ri.run_fld (f := _) rfl e1 Tryz.underlying51 rfl (sz := 0) (by kernel_rfl)) rfl
            · refine Ri.StepD.g rfl ⟨rfl, fun f W hq hf A hA hB hO => ?_⟩
              have e1 := (hA 140 1 (by kernel_rfl) (by simp)).trans (show f 1 = _ from hf 1 (by kernel_rfl))
              exact Ri.wp_value _ (Ri.run_ld1 rfl e1 Tryz.underlying45 rfl ((HMO.out _ ((Q.refl wa).drew.trans hq)).1)) rfl
            · refine ⟨rfl, fun f W hq hf hD A hA hB hO => ?_⟩
              obtain ⟨b0, hb, hw⟩ : isLit wa.heap.size (f 0) W := hf 0 (by kernel_rfl)
              have e1 := (hA 139 0 (by kernel_rfl) (by simp)).trans hb
              have e2 := (hA 141 2 (by kernel_rfl) (by simp)).trans (show f 2 = _ from hf 2 (by kernel_rfl))
              have hqW := (Q.refl wa).drew.trans hq
              exact Ri.wp_appendD (jj := 0) El_int _ _ rfl e1 e2 hw HK.out.1 HK.out.2.1 (HK.out.2.2 _ hqW) (intsV_cell _) (by omega) hqW.size (by kernel_rfl) rfl hb (fun v w3 h => h)
            · refine ⟨rfl, fun f W hq hf hD A hA hB hO => ?_⟩
              exact Ri.wp_litD El_int rfl ⟨_, rfl, own_lit0 W _ _ _ _ rfl ((Q.refl wa).drew.trans hq).size⟩
            · refine Ri.StepD.g rfl ⟨rfl, fun f W hq hf A hA hB hO => ?_⟩
              have e1 := (hB 20 (by kernel_rfl)).trans (show _ = .pointer (some ⟨cb, 0, none⟩) by simp [Act.eval])
              exact Ri.wp_value _ (Ri.run_fld (f := _) rfl e1 Tryz.underlying51 rfl (sz := 0) (by kernel_rfl)) rfl
            · refine Ri.StepD.g rfl ⟨rfl, fun f W hq hf A hA hB hO => ?_⟩
              have e1 := (hA 144 5 (by kernel_rfl) (by simp)).trans (show f 5 = _ from hf 5 (by kernel_rfl))
              exact Ri.wp_value _ (Ri.run_ld1 rfl e1 Tryz.underlying45 rfl ((HMO.out _ ((Q.refl wa).drew.trans hq)).2)) rfl
            · refine ⟨rfl, fun f W hq hf hD A hA hB hO => ?_⟩
              obtain ⟨b0, hb, hw⟩ : isLit wa.heap.size (f 4) W := hf 4 (by kernel_rfl)
              have e1 := (hA 143 4 (by kernel_rfl) (by simp)).trans hb
              have e2 := (hA 145 6 (by kernel_rfl) (by simp)).trans (show f 6 = _ from hf 6 (by kernel_rfl))
              have hqW := (Q.refl wa).drew.trans hq
              exact Ri.wp_appendD (jj := 4) El_int _ _ rfl e1 e2 hw HV.out.1 HV.out.2.1 (HV.out.2.2 _ hqW) (intsV_cell _) (by omega) hqW.size (by kernel_rfl) rfl hb (fun v w3 h => h)
            · refine ⟨rfl, fun f W hq hf hD A hA hB hO => ?_⟩
              have o3 : isOwnI wa.heap.size lq (intsV (keysOf zs)) (f 3) W := hf 3 (by kernel_rfl)
              have o7 : isOwnI wa.heap.size lq (intsV (valsOf zs)) (f 7) W := hf 7 (by kernel_rfl)
              have hap : ∀ g, (f 3).ownBlock = some g → (f 7).ownBlock ≠ some g := fun g hg => hD 3 7 (by show _ = true; kernel_rfl) (by show _ = true; kernel_rfl) (by decide) (by decide) (by decide) g hg
              have e1 := hA 142 3 (by kernel_rfl) (by simp)
              have e2 := hA 146 7 (by kernel_rfl) (by simp)
              obtain ⟨u1, hu1⟩ : ∃ u1, u1 = f 3 := ⟨_, rfl⟩
              obtain ⟨u2, hu2⟩ : ∃ u2, u2 = f 7 := ⟨_, rfl⟩
              rw [← hu1] at o3 e1 hap
              rw [← hu2] at o7 e2 hap
              obtain ⟨X1, y1, e3, -⟩ := own_form o3
              obtain ⟨X2, y2, e4, -⟩ := own_form o7
              subst e3
              subst e4
              exact Ri.wp_structD rfl rfl [(0, .slice X1 lq y1), (1, .slice X2 lq y2)] (by simp [e1, e2]) (by kernel_rfl) ⟨_, _, rfl, o3, o7, hap⟩
            · refine Ri.StepD.g rfl ⟨rfl, fun f W hq hf A hA hB hO => ?_⟩
              refine Ri.wp_val (.pointer (some ⟨W.heap.size, 0, none⟩)) (run_allocTQ rfl) ((Q.refl _).alloc _) ?_
              exact ⟨_, rfl, ((Q.refl wa).drew.trans hq).size, heap_alloc_new _ _⟩
          · intro f W hq hf A hAe hA hB
            obtain ⟨u1, u2, e8, o1, o2, hap⟩ : isPairT wa.heap.size lq (intsV (keysOf zs)) (intsV (valsOf zs)) (f 8) W := hf 8 (by simp)
            obtain ⟨nb, e9, hnb, hbx⟩ : isBoxT 51 wa.heap.size (f 9) W := hf 9 (by simp)
            have e1 := (hA 25 9 (by kernel_rfl) (by simp)).trans e9
            have e2 := (hA 147 8 (by kernel_rfl) (by simp)).trans e8
            have o1x := o1
            rw [HLQk.out] at o1x
            have o2x := o2
            rw [HLQv.out] at o2x
            have hT3 := HT2.out.copyQ hq hbx hnb o1x o2x hap
            obtain ⟨Q1, yQ1, e3, -⟩ := own_form o1
            obtain ⟨Q2, yQ2, e4, -⟩ := own_form o2
            subst e3
            subst e4
            refine wp_store_row _ _ _ rfl nb #[.slice Q1 lq yQ1, .slice Q2 lq yQ2] e1 e2 _ _ hbx (by kernel_rfl) rfl (by simp [Value.oneCell']) ⟨undef, rfl, ?_⟩
            rw [hAe]
            simp only [Ri.acts, Act.put, List.setIfInBounds_toArray, List.set_cons_zero, List.set_cons_succ, Nat.zero_add, Nat.reduceAdd]
            rw [e9]
            have HT3 := hide hT3
            clear hT3 hq hf hA hB hAe e1 e2 e8 e9 o1 o2 o1x o2x hap hbx hnb HT2 HMO HK HV
            obtain ⟨wa, ewa⟩ : ∃ wa, wa = W.setRow nb #[.slice Q1 lq yQ1, .slice Q2 lq yQ2] := ⟨_, rfl⟩
            obtain ⟨ob, eob⟩ : ∃ ob, ob = nb := ⟨_, rfl⟩
            rw [← ewa, ← eob] at HT3
            rw [← ewa, ← eob]
            clear ewa eob
            have HT : Hid (TS w wa g lb pb qb kb m r1 r2 r3 i kv [iL w.heap.size db (.slice (some ⟨g9, 0, none⟩) la c9) xs, iM w.heap.size eb (.slice M1 lm yM1) (.slice M2 lm yM2) kv, iQ w.heap.size ob (.slice Q1 lq yQ1) (.slice Q2 lq yQ2) zs, iB tb 53 #[.int .i64 op, .int .i64 a1, .int .i64 b1], iL w.heap.size ab (.slice A1 xs.length c1) xs, iM w.heap.size bb vk vv kv, iQ w.heap.size cb wk wv zs, S]) := HT3.out.perm ((up3 _ _ _ _).trans (List.Perm.cons _ (List.Perm.swap ..)))
            clear HT3
            have hac : wa.heap[tb]? = some (.cells #[.int .i64 op, .int .i64 a1, .int .i64 b1] 53 (0, 0)) := HT.out.has (.tail _ (.tail _ (.tail _ (.head _))))
            have d0 : wa.cell? ⟨tb, 0, none⟩ = some (.int .i64 op) := by rw [cell_of_row _ _ _ _ _ _ hac]; rfl
            have htb := blk_lt hac
            clear hac
            go_upto_block 2 with fail
            go_cut [26, 27] (fun t26 t27 wx => CutT w g lb pb qb kb ab bb cb db eb ob tb S op a1 b1 B Hs i t26 t27 wx)
            case first =>
              as_aux_lemma =>
                have hi200 : i < 200 := by omega
                have hacT := HT.out.actc (op := op) (a1 := a1) (b1 := b1) (.tail _ (.tail _ (.tail _ (.head _))))
                obtain ⟨-, d1, d2, -⟩ := hacT
                clear hlt hin
                cases k0 : (op == 0) with
                | true =>
                  as_aux_lemma =>
                    obtain ⟨pin, epin⟩ : ∃ pin, pin = insP xs xs.length a1 := ⟨_, rfl⟩
                    obtain ⟨CC, hCC⟩ : ∃ CC : Bool → Bool → Value → World → Prop, CC = StA w g lb pb qb kb m r1 r2 r3 i kv xs a1 db g9 c9 [iM w.heap.size eb (.slice M1 lm yM1) (.slice M2 lm yM2) kv, iQ w.heap.size ob (.slice Q1 lq yQ1) (.slice Q2 lq yQ2) zs, iB tb 53 #[.int .i64 op, .int .i64 a1, .int .i64 b1], iL w.heap.size ab (.slice A1 xs.length c1) xs, iM w.heap.size bb vk vv kv, iQ w.heap.size cb wk wv zs, S] := ⟨_, rfl⟩
                    have HC0 : Hid (∀ v, CC false false v wa) := fun v => by
                      rw [hCC]
                      have h := HT.out
                      rw [HLA.out] at h
                      exact sta_start h
                    have HCQ : Hid (∀ b3 b9 v W W', CC b3 b9 v W → Q W W' → CC b3 b9 v W') := fun b3 b9 v W W' h hq => by
                      rw [hCC] at h ⊢
                      exact sta_q h hq
                    have HAD : Hid (∀ W b9 v, CC false b9 v W → Calls Tryz.prog 17 #[.pointer (some ⟨lb, 0, none⟩), .int .i64 a1] W fun e W' => ∃ u, e = .returned u ∧ CC true b9 u W' ∧ ∃ err, u = .int .i64 err) := fun W b9 v h => by
                      rw [hCC] at h ⊢
                      exact sta_add h HP.out.l (by have := HP.out.few; omega)
                    have HIN : Hid (∀ W b3 v, CC b3 false v W → Calls Tryz.prog 18 #[.pointer (some ⟨db, 0, none⟩), .int .i64 (la : Int), .int .i64 a1] W fun e W' => e = .returned (.int .i64 pin) ∧ CC b3 true v W') := fun W b3 v h => by
                      rw [hCC] at h ⊢
                      rw [HLA.out, epin]
                      exact sta_ins h (by have := HP.out.l.fit64; omega)
                    have HCL : Hid (∀ W b3 v, CC b3 false v W → W.cell? ⟨db, 0, none⟩ = some (.slice (some ⟨g9, 0, none⟩) la c9)) := fun W b3 v h => by
                      rw [hCC] at h
                      rw [HLA.out]
                      exact sta_len h
                    have HCA : Hid (∀ W b3 b9 v, CC b3 b9 v W → W.cell? ⟨tb, 1, none⟩ = some (.int .i64 a1)) := fun W b3 b9 v h => by
                      rw [hCC] at h
                      obtain ⟨m2, r2x, vd, X, -⟩ := h
                      exact (X.actc (op := op) (b1 := b1) (.tail _ (.tail _ (.tail _ (.head _))))).2.1
                    have HEN : Hid (∀ v W, CC true true v W → ∃ err, v = .int .i64 err ∧ CutT w g lb pb qb kb ab bb cb db eb ob tb S op a1 b1 B Hs i (.int .i64 err) (.int .i64 pin) W) := fun v W h => by
                      rw [hCC] at h
                      obtain ⟨m2, rx, vd, hX, hO, -⟩ := h
                      rw [if_pos rfl] at hO
                      rw [if_pos rfl] at hX
                      obtain ⟨err, ev, hO⟩ := hO
                      obtain ⟨hOut, xs', kv', zs', hP, hc⟩ := t_add HP.out hO
                      rw [epin]
                      exact ⟨err, ev, m2, rx, r2, r3, xs, insY xs xs.length a1, kv, zs, kv, zs, kv, _, _, _, _, _, _, _, _, _, _, err, _, rfl, rfl, hX.more (by omega), hOut, xs', kv', zs', hP, hc.elim (fun h => h.2.2.1.symm) (fun h => h.2.2.1.symm), hc⟩
                    have Ha1 := hide epin
                    clear hCC epin HT HP HLA Ha1 d0 d1 d2 htb
                    go_upto_region 33 with fail
                    refine Ri.madeY (C := fun (S0 : Nat → Bool) (f : Nat → Value) (W : World) => CC (S0 3) (S0 9) (f 3) W ∧ (S0 10 = true → f 10 = f 3)) [3, 9, 10] [0, 1, 2, 3, 4, 5, 6, 7, 8, 9, 10, 11] [] (fun S0 S2 f f2 w1 w2 hk X hq => by obtain ⟨x1, x2⟩ := hk 3 (by kernel_rfl); obtain ⟨x3, -⟩ := hk 9 (by kernel_rfl); obtain ⟨x4, x5⟩ := hk 10 (by kernel_rfl); show CC (S2 3) (S2 9) (f2 3) w2 ∧ (S2 10 = true → f2 10 = f2 3); rw [x1, x2, x3, x4, x5]; exact ⟨HCQ.out _ _ _ _ _ X.1 hq, X.2⟩) (Ri.phi [Ri.isV (.pointer (some ⟨lb, 0, none⟩)), Ri.isV (.pointer (some ⟨tb, 1, none⟩)), Ri.isV (.int .i64 a1), (fun _ _ => True), Ri.isV (.pointer (some ⟨db, 0, none⟩)), Ri.isV (.slice (some ⟨g9, 0, none⟩) la c9), Ri.isV (.int .i64 (la : Int)), Ri.isV (.pointer (some ⟨tb, 1, none⟩)), Ri.isV (.int .i64 a1), Ri.isV (.int .i64 pin), (fun _ _ => True), Ri.isV (.int .i64 pin)]) (by kernel_rfl) (by kernel_rfl) (by kernel_rfl) (⟨HCQ.out _ _ _ _ _ (HC0.out _) (Q.refl _).drew, fun h => by cases h⟩) (Ri.phi_mono ?_) (Ri.phi_fix ?_) ?_ ?_
                    · exact ⟨Ri.mono_isV _, Ri.mono_isV _, Ri.mono_isV _, (fun _ _ _ h _ => h), Ri.mono_isV _, Ri.mono_isV _, Ri.mono_isV _, Ri.mono_isV _, Ri.mono_isV _, Ri.mono_isV _, (fun _ _ _ h _ => h), Ri.mono_isV _, trivial⟩
                    · exact ⟨fun _ => Ri.fix_isV _, fun _ => Ri.fix_isV _, fun _ => Ri.fix_isV _, (fun _ _ _ _ h => h), fun _ => Ri.fix_isV _, fun _ => Ri.fix_isV _, fun _ => Ri.fix_isV _, fun _ => Ri.fix_isV _, fun _ => Ri.fix_isV _, fun _ => Ri.fix_isV _, (fun _ _ _ _ h => h), fun _ => Ri.fix_isV _, trivial⟩
                    · refine Ri.All.cons ?_ (Ri.All.cons ?_ (Ri.All.cons ?_ (Ri.All.cons ?_ (Ri.All.cons ?_ (Ri.All.cons ?_ (Ri.All.cons ?_ (Ri.All.cons ?_ (Ri.All.cons ?_ (Ri.All.cons ?_ (Ri.All.cons ?_ (Ri.All.cons ?_ (Ri.All.nil))))))))))))
                      · refine Ri.StepY.q (by kernel_rfl) rfl fun S0 f W hS hD hq hf A hA hB hO => ?_
                        have e1 := (hB 12 (by kernel_rfl)).trans (show _ = .pointer (some ⟨lb, 0, none⟩) by simp [Act.eval])
                        exact Ri.wp_value _ (Ri.run_mv rfl e1) rfl
                      · refine Ri.StepY.q (by kernel_rfl) rfl fun S0 f W hS hD hq hf A hA hB hO => ?_
                        have e1 := (hB 22 (by kernel_rfl)).trans (show _ = .pointer (some ⟨tb, 0, none⟩) by simp [Act.eval])
                        exact Ri.wp_value _ (Ri.run_fld (f := _) rfl e1 Tryz.underlying53 rfl (sz := 0) (by kernel_rfl)) rfl
                      · refine Ri.StepY.q (by kernel_rfl) rfl fun S0 f W hS hD hq hf A hA hB hO => ?_
                        have e1 := (hA 157 1 (by kernel_rfl) (by simp)).trans (show f 1 = _ from hf 1 (by kernel_rfl))
                        exact Ri.wp_value _ (Ri.run_ld1 rfl e1 Tryz.underlying3 rfl (HCA.out _ _ _ _ hq.1)) rfl
                      · refine Ri.StepY.c (by kernel_rfl) rfl fun S0 f W hS hD hq hf A hA hB hO => ?_
                        have e1 := (hA 156 0 (by kernel_rfl) (by simp)).trans (show f 0 = _ from hf 0 (by kernel_rfl))
                        have e2 := (hA 158 2 (by kernel_rfl) (by simp)).trans (show f 2 = _ from hf 2 (by kernel_rfl))
                        have hq0 : CC false (S0 9) (f 3) W := by have h := hq.1; rw [hS] at h; exact h
                        refine Ri.wp_callY #[.pointer (some ⟨lb, 0, none⟩), .int .i64 a1] rfl (by simp [e1, e2]) Tryz.func17 (by kernel_rfl) (by kernel_rfl) ((HAD.out W _ _ hq0).mono ?_)
                        rintro e w3 ⟨u, rfl, hX3, -⟩
                        refine ⟨u, rfl, ?_, trivial⟩
                        show CC (Ri.upd S0 3 true 3) (Ri.upd S0 3 true 9) (Ri.upd f 3 u 3) w3 ∧ (Ri.upd S0 3 true 10 = true → Ri.upd f 3 u 10 = Ri.upd f 3 u 3)
                        have hn : S0 10 = false := (hO 10 (by kernel_rfl)).1
                        rw [Ri.upd_at, Ri.upd_at, Ri.upd_ne _ _ (by decide), Ri.upd_ne _ _ (by decide), Ri.upd_ne _ _ (by decide), hn]
                        exact ⟨hX3, fun h => by cases h⟩
                      · refine Ri.StepY.q (by kernel_rfl) rfl fun S0 f W hS hD hq hf A hA hB hO => ?_
                        have e1 := (hB 23 (by kernel_rfl)).trans (show _ = .pointer (some ⟨db, 0, none⟩) by simp [Act.eval])
                        exact Ri.wp_value _ (Ri.run_fld (f := _) rfl e1 Tryz.underlying47 rfl (sz := 0) (by kernel_rfl)) rfl
                      · refine Ri.StepY.q (by kernel_rfl) rfl fun S0 f W hS hD hq hf A hA hB hO => ?_
                        have e1 := (hA 160 4 (by kernel_rfl) (by simp)).trans (show f 4 = _ from hf 4 (by kernel_rfl))
                        have hn : S0 9 = false := (hO 9 (by kernel_rfl)).1
                        have hq0 : CC (S0 3) false (f 3) W := by have h := hq.1; rw [hn] at h; exact h
                        exact Ri.wp_value _ (Ri.run_ld1 rfl e1 Tryz.underlying45 rfl (HCL.out _ _ _ hq0)) rfl
                      · refine Ri.StepY.q (by kernel_rfl) rfl fun S0 f W hS hD hq hf A hA hB hO => ?_
                        have e1 := (hA 161 5 (by kernel_rfl) (by simp)).trans (show f 5 = _ from hf 5 (by kernel_rfl))
                        exact Ri.wp_value _ (Ri.run_len rfl e1 Tryz.underlying45) rfl
                      · refine Ri.StepY.q (by kernel_rfl) rfl fun S0 f W hS hD hq hf A hA hB hO => ?_
                        have e1 := (hB 22 (by kernel_rfl)).trans (show _ = .pointer (some ⟨tb, 0, none⟩) by simp [Act.eval])
                        exact Ri.wp_value _ (Ri.run_fld (f := _) rfl e1 Tryz.underlying53 rfl (sz := 0) (by kernel_rfl)) rfl
                      · refine Ri.StepY.q (by kernel_rfl) rfl fun S0 f W hS hD hq hf A hA hB hO => ?_
                        have e1 := (hA 163 7 (by kernel_rfl) (by simp)).trans (show f 7 = _ from hf 7 (by kernel_rfl))
                        exact Ri.wp_value _ (Ri.run_ld1 rfl e1 Tryz.underlying3 rfl (HCA.out _ _ _ _ hq.1)) rfl
                      · refine Ri.StepY.c (by kernel_rfl) rfl fun S0 f W hS hD hq hf A hA hB hO => ?_
                        have e1 := (hB 23 (by kernel_rfl)).trans (show _ = .pointer (some ⟨db, 0, none⟩) by simp [Act.eval])
                        have e2 := (hA 162 6 (by kernel_rfl) (by simp)).trans (show f 6 = _ from hf 6 (by kernel_rfl))
                        have e3 := (hA 164 8 (by kernel_rfl) (by simp)).trans (show f 8 = _ from hf 8 (by kernel_rfl))
                        have hq0 : CC (S0 3) false (f 3) W := by have h := hq.1; rw [hS] at h; exact h
                        refine Ri.wp_callY #[.pointer (some ⟨db, 0, none⟩), .int .i64 (la : Int), .int .i64 a1] rfl (by simp [e1, e2, e3]) Tryz.func18 (by kernel_rfl) (by kernel_rfl) ((HIN.out W _ _ hq0).mono ?_)
                        rintro e w3 ⟨rfl, hX3⟩
                        refine ⟨_, rfl, ?_, rfl⟩
                        show CC (Ri.upd S0 9 true 3) (Ri.upd S0 9 true 9) (Ri.upd f 9 (.int .i64 pin) 3) w3 ∧ (Ri.upd S0 9 true 10 = true → Ri.upd f 9 (.int .i64 pin) 10 = Ri.upd f 9 (.int .i64 pin) 3)
                        rw [Ri.upd_at, Ri.upd_ne _ _ (by decide), Ri.upd_ne _ _ (by decide), Ri.upd_ne _ _ (by decide), Ri.upd_ne _ _ (by decide)]
                        exact ⟨hX3, hq.2⟩
                      · refine Ri.StepY.c (by kernel_rfl) rfl fun S0 f W hS hD hq hf A hA hB hO => ?_
                        have e1 := hA 159 3 (by kernel_rfl) (by simp)
                        refine Oper.wp_mono ?_ (Ri.wp_value (φ := fun v _ => v = f 3) (f 3) (Ri.run_asg rfl e1) rfl)
                        rintro a' w' ⟨v, e, hq', hv⟩
                        refine ⟨v, e, ?_, trivial⟩
                        show CC (Ri.upd S0 10 true 3) (Ri.upd S0 10 true 9) (Ri.upd f 10 v 3) w' ∧ (Ri.upd S0 10 true 10 = true → Ri.upd f 10 v 10 = Ri.upd f 10 v 3)
                        rw [Ri.upd_ne _ _ (by decide), Ri.upd_ne _ _ (by decide), Ri.upd_ne _ _ (by decide), Ri.upd_at, Ri.upd_at]
                        exact ⟨HCQ.out _ _ _ _ _ hq.1 hq', fun _ => hv⟩
                      · refine Ri.StepY.q (by kernel_rfl) rfl fun S0 f W hS hD hq hf A hA hB hO => ?_
                        have e1 := (hA 165 9 (by kernel_rfl) (by simp)).trans (show f 9 = _ from hf 9 (by kernel_rfl))
                        exact Ri.wp_value _ (Ri.run_asg rfl e1) rfl
                    · intro S0 f W5 hS hq hf
                      obtain ⟨hcc, h10⟩ := hq
                      rw [hS 3 (by simp), hS 9 (by simp)] at hcc
                      have e10 := h10 (hS 10 (by simp))
                      obtain ⟨err, e3, hcut⟩ := HEN.out _ _ hcc
                      have e11 : f 11 = .int .i64 pin := hf 11 (by simp) (by kernel_rfl)
                      simp only [Ri.acts, Act.put, List.setIfInBounds_toArray, List.set_cons_zero, List.set_cons_succ, Nat.zero_add, Nat.reduceAdd]
                      rw [e10, e11, e3]
                      have HCUT := hide hcut
                      clear hf hcc h10 hS hcut e10 e11 e3
                      go_wp2_with fail
                      go_meet
                      exact HCUT.out
                | false =>
                  cases k1 : (op == 1) with
                  | true =>
                    as_aux_lemma =>
                      have HX64 : Hid (xs.length ≤ 1000) := hide (by have := HP.out.l.fit64; omega)
                      go_wp2_with (first
                        | (go_at_call 19; go_loud (refine (ts_rem HT.out HP.out.l a1).mono ?_); rintro e w20 ⟨m2, r', hX, x, err, rfl, hO⟩; have HX20 := hide hX; clear hX; have HO := hide hO; clear hO; clear d0 d1 d2 htb; obtain ⟨d0, d1, d2, htb⟩ := HX20.out.actc (op := op) (a1 := a1) (b1 := b1) (.tail _ (.tail _ (.tail _ (.head _)))))
                        | (go_at_call 20; go_loud (refine (tr_rem (by have h := HX20.out; rw [HLA.out] at h; exact h) HX64.out a1).mono ?_); rintro e w21 ⟨rfl, v4, hX⟩; have HX21 := hide hX; clear hX; clear d0 d1 d2 htb; obtain ⟨d0, d1, d2, htb⟩ := HX21.out.actc (op := op) (a1 := a1) (b1 := b1) (.tail _ (.tail _ (.tail _ (.head _))))))
                      go_meet
                      obtain ⟨hOut, xs', kv', zs', hP, hc⟩ := t_rem HP.out HO.out
                      exact ⟨m2, r', r2, r3, xs, remY xs a1, kv, zs, kv, zs, kv, _, _, _, _, _, _, _, _, _, _, err, _, rfl, rfl, HX21.out.more (by omega), hOut, xs', kv', zs', hP, hc.elim (fun h => h.2.2.1.symm) (fun h => h.2.2.1.symm), hc⟩
                  | false =>
                    cases k2 : (op == 2) with
                    | true =>
                      as_aux_lemma =>
                        have hc9 : Hid (m.calls < 1000000000) := hide (by have := HP.out.few; omega)
                        have hi9 : Hid (i < 1000000) := hide (by omega)
                        go_wp2_with (first
                          | (go_at_call 21; go_loud (refine (ts_put HT.out HP.out.mp hc9.out hi9.out a1 b1).mono ?_); rintro e w20 ⟨m2, r', us, hX, old, is, err, rfl, hO⟩; have HX20 := hide hX; clear hX; have HO := hide hO; clear hO; clear d0 d1 d2 htb; obtain ⟨d0, d1, d2, htb⟩ := HX20.out.actc (op := op) (a1 := a1) (b1 := b1) (.tail _ (.tail _ (.tail _ (.head _)))))
                          | (go_at_call 22; go_loud (refine (at_put HX20.out HP.out.mp.nd HP.out.mp.l64 a1 b1).mono ?_); rintro e w21 ⟨rfl, v4, v5, hX⟩; have HX21 := hide hX; clear hX; clear d0 d1 d2 htb; obtain ⟨d0, d1, d2, htb⟩ := HX21.out.actc (op := op) (a1 := a1) (b1 := b1) (.tail _ (.tail _ (.tail _ (.head _))))))
                        go_meet
                        obtain ⟨hOut, hP, hc⟩ := t_put2 HP.out HO.out
                        have hX := HX21.out
                        rw [HLA.out] at hX
                        exact ⟨m2, r1, r', r3, xs, xs, kv, zs, ptY kv a1 b1, zs, us, _, _, _, _, _, _, _, _, _, _, err, _, rfl, rfl, hX, hOut, xs, us, zs, hP, rfl, hc.elim (fun h => .inl ⟨h.1, rfl, h.2, rfl⟩) (fun h => .inr ⟨h.1, rfl, h.2, rfl⟩)⟩
                    | false =>
                      cases k3 : (op == 3) with
                      | true =>
                        as_aux_lemma =>
                          go_wp2_with (first
                            | (go_at_call 23; go_loud (refine (ts_del HT.out HP.out.mp a1).mono ?_); rintro e w20 ⟨m2, r', us, hX, x, is, err, rfl, hO⟩; have HX20 := hide hX; clear hX; have HO := hide hO; clear hO; clear d0 d1 d2 htb; obtain ⟨d0, d1, d2, htb⟩ := HX20.out.actc (op := op) (a1 := a1) (b1 := b1) (.tail _ (.tail _ (.tail _ (.head _)))))
                            | (go_at_call 24; go_loud (refine (at_del HX20.out HP.out.mp.nd HP.out.mp.l64 a1).mono ?_); rintro e w21 ⟨rfl, v4, v5, hX⟩; have HX21 := hide hX; clear hX; clear d0 d1 d2 htb; obtain ⟨d0, d1, d2, htb⟩ := HX21.out.actc (op := op) (a1 := a1) (b1 := b1) (.tail _ (.tail _ (.tail _ (.head _))))))
                          go_meet
                          obtain ⟨hOut, hP, hc⟩ := t_del2 HP.out HO.out
                          have hX := HX21.out
                          rw [HLA.out] at hX
                          exact ⟨m2, r1, r', r3, xs, xs, kv, zs, dlY kv a1, zs, us, _, _, _, _, _, _, _, _, _, _, err, _, rfl, rfl, hX.more (by omega), hOut, xs, us, zs, hP, rfl, hc.elim (fun h => .inl ⟨h.1, rfl, h.2, rfl⟩) (fun h => .inr ⟨h.1, rfl, h.2, rfl⟩)⟩
                      | false =>
                        cases k4 : (op == 4) with
                        | true =>
                          as_aux_lemma =>
                            obtain ⟨pin, epin⟩ : ∃ pin, pin = psE zs a1 b1 := ⟨_, rfl⟩
                            obtain ⟨Ls, t, I⟩ := HP.out.qu
                            have hi2 : i < 1000000 := by omega
                            obtain ⟨CC, hCC⟩ : ∃ CC : Bool → Bool → Value → World → Prop, CC = StP w g lb pb qb kb m r1 r2 r3 i kv zs Ls t a1 b1 ob (iL w.heap.size db (.slice (some ⟨g9, 0, none⟩) la c9) xs) (iM w.heap.size eb (.slice M1 lm yM1) (.slice M2 lm yM2) kv) [iB tb 53 #[.int .i64 op, .int .i64 a1, .int .i64 b1], iL w.heap.size ab (.slice A1 xs.length c1) xs, iM w.heap.size bb vk vv kv, iQ w.heap.size cb wk wv zs, S] := ⟨_, rfl⟩
                            have HC0 : Hid (∀ v, CC false false v wa) := fun v => by
                              rw [hCC]
                              exact stp_start HT.out
                            have HCQ : Hid (∀ b3 b9 v W W', CC b3 b9 v W → Q W W' → CC b3 b9 v W') := fun b3 b9 v W W' h hq => by
                              rw [hCC] at h ⊢
                              exact stp_q h hq
                            have HAD : Hid (∀ W b9 v, CC false b9 v W → Calls Tryz.prog 25 #[.pointer (some ⟨qb, 0, none⟩), .int .i64 a1, .int .i64 b1] W fun e W' => ∃ u, e = .returned u ∧ CC true b9 u W' ∧ ∃ err, u = .int .i64 err) := fun W b9 v h => by
                              rw [hCC] at h ⊢
                              exact stp_push h I (by have := HP.out.few; omega) hi2
                            have HIN : Hid (∀ W b3 v, CC b3 false v W → Calls Tryz.prog 26 #[.pointer (some ⟨ob, 0, none⟩), .int .i64 a1, .int .i64 b1] W fun e W' => e = .returned (.int .i64 pin) ∧ CC b3 true v W') := fun W b3 v h => by
                              rw [hCC] at h ⊢
                              rw [epin]
                              exact stp_ref h I.l64
                            have HCA : Hid (∀ W b3 b9 v, CC b3 b9 v W → W.cell? ⟨tb, 1, none⟩ = some (.int .i64 a1) ∧ W.cell? ⟨tb, 2, none⟩ = some (.int .i64 b1)) := fun W b3 b9 v h => by
                              rw [hCC] at h
                              obtain ⟨m2, rx, u1, u2, X, -⟩ := h
                              have := X.actc (op := op) (a1 := a1) (b1 := b1) (.tail _ (.tail _ (.tail _ (.head _))))
                              exact ⟨this.2.1, this.2.2.1⟩
                            have HEN : Hid (∀ v W, CC true true v W → ∃ err, v = .int .i64 err ∧ CutT w g lb pb qb kb ab bb cb db eb ob tb S op a1 b1 B Hs i (.int .i64 err) (.int .i64 pin) W) := fun v W h => by
                              rw [hCC] at h
                              obtain ⟨m2, rx, u1, u2, hX, hO⟩ := h
                              rw [if_pos rfl] at hO
                              rw [if_pos rfl] at hX
                              obtain ⟨L2, err, t2, ev, hO⟩ := hO
                              obtain ⟨hOut, xs', kv', zs', hP, hc⟩ := t_push HP.out I hO
                              rw [epin]
                              have hX := hX
                              rw [HLA.out] at hX
                              exact ⟨err, ev, m2, r1, r2, rx, xs, xs, kv, zs, kv, psY zs a1 b1, kv, _, _, _, _, _, _, _, _, _, _, err, _, rfl, rfl, hX.more (by omega), hOut, xs', kv', zs', hP, hc.elim (fun h => h.2.2.1.symm) (fun h => h.2.2.1.symm), hc⟩
                            clear hCC epin HT HP HLA I d0 d1 d2 htb
                            go_upto_region 44 with fail
                            refine Ri.madeY (C := fun (S0 : Nat → Bool) (f : Nat → Value) (W : World) => CC (S0 5) (S0 10) (f 5) W ∧ (S0 11 = true → f 11 = f 5)) [5, 10, 11] [0, 1, 2, 3, 4, 5, 6, 7, 8, 9, 10, 11, 12] [] (fun S0 S2 f f2 w1 w2 hk X hq => by obtain ⟨x1, x2⟩ := hk 5 (by kernel_rfl); obtain ⟨x3, -⟩ := hk 10 (by kernel_rfl); obtain ⟨x4, x5⟩ := hk 11 (by kernel_rfl); show CC (S2 5) (S2 10) (f2 5) w2 ∧ (S2 11 = true → f2 11 = f2 5); rw [x1, x2, x3, x4, x5]; exact ⟨HCQ.out _ _ _ _ _ X.1 hq, X.2⟩) (Ri.phi [Ri.isV (.pointer (some ⟨qb, 0, none⟩)), Ri.isV (.pointer (some ⟨tb, 1, none⟩)), Ri.isV (.int .i64 a1), Ri.isV (.pointer (some ⟨tb, 2, none⟩)), Ri.isV (.int .i64 b1), (fun _ _ => True), Ri.isV (.pointer (some ⟨tb, 1, none⟩)), Ri.isV (.int .i64 a1), Ri.isV (.pointer (some ⟨tb, 2, none⟩)), Ri.isV (.int .i64 b1), Ri.isV (.int .i64 pin), (fun _ _ => True), Ri.isV (.int .i64 pin)]) (by kernel_rfl) (by kernel_rfl) (by kernel_rfl) (⟨HCQ.out _ _ _ _ _ (HC0.out _) (Q.refl _).drew, fun h => by cases h⟩) (Ri.phi_mono ?_) (Ri.phi_fix ?_) ?_ ?_
                            · exact ⟨Ri.mono_isV _, Ri.mono_isV _, Ri.mono_isV _, Ri.mono_isV _, Ri.mono_isV _, (fun _ _ _ h _ => h), Ri.mono_isV _, Ri.mono_isV _, Ri.mono_isV _, Ri.mono_isV _, Ri.mono_isV _, (fun _ _ _ h _ => h), Ri.mono_isV _, trivial⟩
                            · exact ⟨fun _ => Ri.fix_isV _, fun _ => Ri.fix_isV _, fun _ => Ri.fix_isV _, fun _ => Ri.fix_isV _, fun _ => Ri.fix_isV _, (fun _ _ _ _ h => h), fun _ => Ri.fix_isV _, fun _ => Ri.fix_isV _, fun _ => Ri.fix_isV _, fun _ => Ri.fix_isV _, fun _ => Ri.fix_isV _, (fun _ _ _ _ h => h), fun _ => Ri.fix_isV _, trivial⟩
                            · refine Ri.All.cons ?_ (Ri.All.cons ?_ (Ri.All.cons ?_ (Ri.All.cons ?_ (Ri.All.cons ?_ (Ri.All.cons ?_ (Ri.All.cons ?_ (Ri.All.cons ?_ (Ri.All.cons ?_ (Ri.All.cons ?_ (Ri.All.cons ?_ (Ri.All.cons ?_ (Ri.All.cons ?_ (Ri.All.nil)))))))))))))
                              · refine Ri.StepY.q (by kernel_rfl) rfl fun S0 f W hS hD hq hf A hA hB hO => ?_
                                have e1 := (hB 16 (by kernel_rfl)).trans (show _ = .pointer (some ⟨qb, 0, none⟩) by simp [Act.eval])
                                exact Ri.wp_value _ (Ri.run_mv rfl e1) rfl
                              · refine Ri.StepY.q (by kernel_rfl) rfl fun S0 f W hS hD hq hf A hA hB hO => ?_
                                have e1 := (hB 22 (by kernel_rfl)).trans (show _ = .pointer (some ⟨tb, 0, none⟩) by simp [Act.eval])
                                exact Ri.wp_value _ (Ri.run_fld (f := _) rfl e1 Tryz.underlying53 rfl (sz := 0) (by kernel_rfl)) rfl
                              · refine Ri.StepY.q (by kernel_rfl) rfl fun S0 f W hS hD hq hf A hA hB hO => ?_
                                have e1 := (hA 222 1 (by kernel_rfl) (by simp)).trans (show f 1 = _ from hf 1 (by kernel_rfl))
                                exact Ri.wp_value _ (Ri.run_ld1 rfl e1 Tryz.underlying3 rfl ((HCA.out _ _ _ _ hq.1).1)) rfl
                              · refine Ri.StepY.q (by kernel_rfl) rfl fun S0 f W hS hD hq hf A hA hB hO => ?_
                                have e1 := (hB 22 (by kernel_rfl)).trans (show _ = .pointer (some ⟨tb, 0, none⟩) by simp [Act.eval])
                                exact Ri.wp_value _ (Ri.run_fld (f := _) rfl e1 Tryz.underlying53 rfl (sz := 0) (by kernel_rfl)) rfl
                              · refine Ri.StepY.q (by kernel_rfl) rfl fun S0 f W hS hD hq hf A hA hB hO => ?_
                                have e1 := (hA 224 3 (by kernel_rfl) (by simp)).trans (show f 3 = _ from hf 3 (by kernel_rfl))
                                exact Ri.wp_value _ (Ri.run_ld1 rfl e1 Tryz.underlying3 rfl ((HCA.out _ _ _ _ hq.1).2)) rfl
                              · refine Ri.StepY.c (by kernel_rfl) rfl fun S0 f W hS hD hq hf A hA hB hO => ?_
                                have e1 := (hA 221 0 (by kernel_rfl) (by simp)).trans (show f 0 = _ from hf 0 (by kernel_rfl))
                                have e2 := (hA 223 2 (by kernel_rfl) (by simp)).trans (show f 2 = _ from hf 2 (by kernel_rfl))
                                have e3 := (hA 225 4 (by kernel_rfl) (by simp)).trans (show f 4 = _ from hf 4 (by kernel_rfl))
                                have hq0 : CC false (S0 10) (f 5) W := by have h := hq.1; rw [hS] at h; exact h
                                refine Ri.wp_callY #[.pointer (some ⟨qb, 0, none⟩), .int .i64 a1, .int .i64 b1] rfl (by simp [e1, e2, e3]) Tryz.func25 (by kernel_rfl) (by kernel_rfl) ((HAD.out W _ _ hq0).mono ?_)
                                rintro e w3 ⟨u, rfl, hX3, -⟩
                                refine ⟨u, rfl, ?_, trivial⟩
                                show CC (Ri.upd S0 5 true 5) (Ri.upd S0 5 true 10) (Ri.upd f 5 u 5) w3 ∧ (Ri.upd S0 5 true 11 = true → Ri.upd f 5 u 11 = Ri.upd f 5 u 5)
                                have hn : S0 11 = false := (hO 11 (by kernel_rfl)).1
                                rw [Ri.upd_at, Ri.upd_at, Ri.upd_ne _ _ (by decide), Ri.upd_ne _ _ (by decide), Ri.upd_ne _ _ (by decide), hn]
                                exact ⟨hX3, fun h => by cases h⟩
                              · refine Ri.StepY.q (by kernel_rfl) rfl fun S0 f W hS hD hq hf A hA hB hO => ?_
                                have e1 := (hB 22 (by kernel_rfl)).trans (show _ = .pointer (some ⟨tb, 0, none⟩) by simp [Act.eval])
                                exact Ri.wp_value _ (Ri.run_fld (f := _) rfl e1 Tryz.underlying53 rfl (sz := 0) (by kernel_rfl)) rfl
                              · refine Ri.StepY.q (by kernel_rfl) rfl fun S0 f W hS hD hq hf A hA hB hO => ?_
                                have e1 := (hA 227 6 (by kernel_rfl) (by simp)).trans (show f 6 = _ from hf 6 (by kernel_rfl))
                                exact Ri.wp_value _ (Ri.run_ld1 rfl e1 Tryz.underlying3 rfl ((HCA.out _ _ _ _ hq.1).1)) rfl
                              · refine Ri.StepY.q (by kernel_rfl) rfl fun S0 f W hS hD hq hf A hA hB hO => ?_
                                have e1 := (hB 22 (by kernel_rfl)).trans (show _ = .pointer (some ⟨tb, 0, none⟩) by simp [Act.eval])
                                exact Ri.wp_value _ (Ri.run_fld (f := _) rfl e1 Tryz.underlying53 rfl (sz := 0) (by kernel_rfl)) rfl
                              · refine Ri.StepY.q (by kernel_rfl) rfl fun S0 f W hS hD hq hf A hA hB hO => ?_
                                have e1 := (hA 229 8 (by kernel_rfl) (by simp)).trans (show f 8 = _ from hf 8 (by kernel_rfl))
                                exact Ri.wp_value _ (Ri.run_ld1 rfl e1 Tryz.underlying3 rfl ((HCA.out _ _ _ _ hq.1).2)) rfl
                              · refine Ri.StepY.c (by kernel_rfl) rfl fun S0 f W hS hD hq hf A hA hB hO => ?_
                                have e1 := (hB 25 (by kernel_rfl)).trans (show _ = .pointer (some ⟨ob, 0, none⟩) by simp [Act.eval])
                                have e2 := (hA 228 7 (by kernel_rfl) (by simp)).trans (show f 7 = _ from hf 7 (by kernel_rfl))
                                have e3 := (hA 230 9 (by kernel_rfl) (by simp)).trans (show f 9 = _ from hf 9 (by kernel_rfl))
                                have hq0 : CC (S0 5) false (f 5) W := by have h := hq.1; rw [hS] at h; exact h
                                refine Ri.wp_callY #[.pointer (some ⟨ob, 0, none⟩), .int .i64 a1, .int .i64 b1] rfl (by simp [e1, e2, e3]) Tryz.func26 (by kernel_rfl) (by kernel_rfl) ((HIN.out W _ _ hq0).mono ?_)
                                rintro e w3 ⟨rfl, hX3⟩
                                refine ⟨_, rfl, ?_, rfl⟩
                                show CC (Ri.upd S0 10 true 5) (Ri.upd S0 10 true 10) (Ri.upd f 10 (.int .i64 pin) 5) w3 ∧ (Ri.upd S0 10 true 11 = true → Ri.upd f 10 (.int .i64 pin) 11 = Ri.upd f 10 (.int .i64 pin) 5)
                                rw [Ri.upd_at, Ri.upd_ne _ _ (by decide), Ri.upd_ne _ _ (by decide), Ri.upd_ne _ _ (by decide), Ri.upd_ne _ _ (by decide)]
                                exact ⟨hX3, hq.2⟩
                              · refine Ri.StepY.c (by kernel_rfl) rfl fun S0 f W hS hD hq hf A hA hB hO => ?_
                                have e1 := hA 226 5 (by kernel_rfl) (by simp)
                                refine Oper.wp_mono ?_ (Ri.wp_value (φ := fun v _ => v = f 5) (f 5) (Ri.run_asg rfl e1) rfl)
                                rintro a' w' ⟨v, e, hq', hv⟩
                                refine ⟨v, e, ?_, trivial⟩
                                show CC (Ri.upd S0 11 true 5) (Ri.upd S0 11 true 10) (Ri.upd f 11 v 5) w' ∧ (Ri.upd S0 11 true 11 = true → Ri.upd f 11 v 11 = Ri.upd f 11 v 5)
                                rw [Ri.upd_ne _ _ (by decide), Ri.upd_ne _ _ (by decide), Ri.upd_ne _ _ (by decide), Ri.upd_at, Ri.upd_at]
                                exact ⟨HCQ.out _ _ _ _ _ hq.1 hq', fun _ => hv⟩
                              · refine Ri.StepY.q (by kernel_rfl) rfl fun S0 f W hS hD hq hf A hA hB hO => ?_
                                have e1 := (hA 231 10 (by kernel_rfl) (by simp)).trans (show f 10 = _ from hf 10 (by kernel_rfl))
                                exact Ri.wp_value _ (Ri.run_asg rfl e1) rfl
                            · intro S0 f W5 hS hq hf
                              obtain ⟨hcc, h10⟩ := hq
                              rw [hS 5 (by simp), hS 10 (by simp)] at hcc
                              have e10 := h10 (hS 11 (by simp))
                              obtain ⟨err, e3, hcut⟩ := HEN.out _ _ hcc
                              have e11 : f 12 = .int .i64 pin := hf 12 (by simp) (by kernel_rfl)
                              simp only [Ri.acts, Act.put, List.setIfInBounds_toArray, List.set_cons_zero, List.set_cons_succ, Nat.zero_add, Nat.reduceAdd]
                              rw [e10, e11, e3]
                              have HCUT := hide hcut
                              clear hf hcc h10 hS hcut e10 e11 e3
                              go_wp2_with fail
                              go_meet
                              exact HCUT.out
                        | false =>
                          cases k5 : (op == 5) with
                          | true =>
                            as_aux_lemma =>
                              obtain ⟨px, epx⟩ : ∃ px, px = (lsP zs).1 := ⟨_, rfl⟩
                              obtain ⟨py, epy⟩ : ∃ py, py = (lsP zs).2 := ⟨_, rfl⟩
                              obtain ⟨pz, epz⟩ : ∃ pz, pz = decide (0 < zs.length) := ⟨_, rfl⟩
                              have HQ64 : Hid (zs.length ≤ 64) := hide (by obtain ⟨Ls, t, q⟩ := HP.out.qu; exact q.l64)
                              have HPO : Hid (Calls Tryz.prog 27 #[.pointer (some ⟨qb, 0, none⟩)] wa fun e W' => e = .returned (.tuple #[.int .i64 px, .int .i64 py, .bool pz, .int .i64 0]) ∧ ∃ m2 r', TS w W' g lb pb qb kb m2 r1 r2 r' i kv [iL w.heap.size db (.slice (some ⟨g9, 0, none⟩) la c9) xs, iM w.heap.size eb (.slice M1 lm yM1) (.slice M2 lm yM2) kv, iQ w.heap.size ob (.slice Q1 lq yQ1) (.slice Q2 lq yQ2) zs, iB tb 53 #[.int .i64 op, .int .i64 a1, .int .i64 b1], iL w.heap.size ab (.slice A1 xs.length c1) xs, iM w.heap.size bb vk vv kv, iQ w.heap.size cb wk wv zs, S] ∧ Act3 m2 r1 r2 r' xs kv zs xs kv (popY zs) B Hs i 0 0) := by
                                rw [epx, epy, epz]
                                exact ts_pop HT.out HP.out
                              have HRP : Hid (∀ W m2 r', TS w W g lb pb qb kb m2 r1 r2 r' i kv [iL w.heap.size db (.slice (some ⟨g9, 0, none⟩) la c9) xs, iM w.heap.size eb (.slice M1 lm yM1) (.slice M2 lm yM2) kv, iQ w.heap.size ob (.slice Q1 lq yQ1) (.slice Q2 lq yQ2) zs, iB tb 53 #[.int .i64 op, .int .i64 a1, .int .i64 b1], iL w.heap.size ab (.slice A1 xs.length c1) xs, iM w.heap.size bb vk vv kv, iQ w.heap.size cb wk wv zs, S] → Calls Tryz.prog 28 #[.pointer (some ⟨ob, 0, none⟩)] W fun e W' => e = .returned (.tuple #[.int .i64 px, .int .i64 py, .bool pz]) ∧ ∃ v4 v5, TS w W' g lb pb qb kb m2 r1 r2 r' i kv (iL w.heap.size db (.slice (some ⟨g9, 0, none⟩) la c9) xs :: iM w.heap.size eb (.slice M1 lm yM1) (.slice M2 lm yM2) kv :: iQ w.heap.size ob v4 v5 (popY zs) :: [iB tb 53 #[.int .i64 op, .int .i64 a1, .int .i64 b1], iL w.heap.size ab (.slice A1 xs.length c1) xs, iM w.heap.size bb vk vv kv, iQ w.heap.size cb wk wv zs, S])) := fun W m2 r' X => by
                                rw [epx, epy, epz]
                                exact at_pop X HQ64.out
                              clear epx epy epz
                              go_wp2_with (first
                                | (go_at_call 27; go_loud (refine (HPO.out).mono ?_); rintro e w20 ⟨rfl, m2, r', hX, hO⟩; have HX20 := hide hX; clear hX; have HO := hide hO; clear hO; clear d0 d1 d2 htb; obtain ⟨d0, d1, d2, htb⟩ := HX20.out.actc (op := op) (a1 := a1) (b1 := b1) (.tail _ (.tail _ (.tail _ (.head _)))))
                                | (go_at_call 28; go_loud (refine (HRP.out _ _ _ HX20.out).mono ?_); rintro e w21 ⟨rfl, v4, v5, hX⟩; have HX21 := hide hX; clear hX; clear d0 d1 d2 htb; obtain ⟨d0, d1, d2, htb⟩ := HX21.out.actc (op := op) (a1 := a1) (b1 := b1) (.tail _ (.tail _ (.tail _ (.head _))))))
                              go_meet
                              obtain ⟨hOut, xs', kv', zs', hP, hc⟩ := HO.out
                              have hX := HX21.out
                              rw [HLA.out] at hX
                              exact ⟨m2, r1, r2, r', xs, xs, kv, zs, kv, popY zs, kv, _, _, _, _, _, _, _, _, _, _, 0, 0, rfl, rfl, hX.more (by omega), hOut, xs', kv', zs', hP, hc.elim (fun h => h.2.2.1.symm) (fun h => h.2.2.1.symm), hc⟩
                          | false =>
                            as_aux_lemma =>
                              go_wp2_with (first
                                | (go_at_call 29; go_loud (refine (ts_fail HT.out HP.out.inv a1).mono ?_); rintro e w20 ⟨rfl, hX⟩; have HX20 := hide hX; clear hX; clear d0 d1 d2 htb; obtain ⟨d0, d1, d2, htb⟩ := HX20.out.actc (op := op) (a1 := a1) (b1 := b1) (.tail _ (.tail _ (.tail _ (.head _))))))
                              go_meet
                              obtain ⟨hOut, xs', kv', zs', hP, hc⟩ := t_fail HP.out a1
                              have hX := HX20.out
                              rw [HLA.out] at hX
                              exact ⟨_, r1, r2, r3, xs, xs, kv, zs, kv, zs, kv, _, _, _, _, _, _, _, _, _, _, 0, 0, rfl, rfl, hX.more (by omega), hOut, xs', kv', zs', hP, hc.elim (fun h => h.2.2.1.symm) (fun h => h.2.2.1.symm), hc⟩
            case rest =>
              as_aux_lemma =>
                clear HT HP d0 htb HLA HLMk HLMv HEK HEV HLQk HLQv HEK2 HEV2 hS64 m64 q64
                clear m r1 r2 r3 xs kv zs
                obtain ⟨m2, q1, q2, q3, xs2, ya, kv9, zs2, yb, yc, kvp, vL, vk2, vv2, wk2, wv2, uL, uk, uv, xk, xv, got, want, rfl, rfl, hX, hOut, xs', kv', zs', hP, ekv, hc⟩ := hcut
                rw [ekv] at hX
                have HX := hide hX
                have HP := hide hP
                have HC := hide hc
                clear hX hP hc ekv
                go_upto_region 48 with fail
                go_cut [252] (fun t252 wx => t252 = .bool false ∧ wx = wc)
                case first =>
                  as_aux_lemma =>
                    rcases hOut with h | ⟨h1, h2⟩
                    · have e1 : (got != want) = false := by simp [h]
                      clear h HX HP HC
                      go_wp2_with fail
                      go_meet
                      exact ⟨rfl, rfl⟩
                    · have e1 : (got != want) = true := by rw [h1, h2]; rfl
                      have e2 : (got != 3) = false := by rw [h1]; rfl
                      have e3 : (want != 0) = false := by rw [h2]; rfl
                      clear h1 h2 HX HP HC
                      go_wp2_with fail
                      go_meet
                      exact ⟨rfl, rfl⟩
                case rest =>
                  obtain ⟨rfl, ewc⟩ := hcut
                  rw [← ewc] at HX
                  clear ewc hOut
                  go_upto_if 254 with fail
                  go_cut [] (fun wx => PT w g lb pb qb kb ab bb cb S B Hs (i + 1) wx)
                  case first =>
                    as_aux_lemma =>
                      cases k9 : (got == 0) with
                      | false =>
                        as_aux_lemma =>
                          have HPT : Hid (PT w g lb pb qb kb ab bb cb S B Hs (i + 1) wc) := by
                            rcases HC.out with ⟨h9, -⟩ | ⟨-, e1, e2, e3⟩
                            · rw [k9] at h9
                              cases h9
                            · have hP := HP.out
                              rw [e1, e2, e3] at hP
                              have hX := HX.out
                              rw [e2] at hX
                              exact cp_keep hX hP
                          clear HC HX HP
                          go_wp2_with fail
                          go_meet
                          exact HPT.out
                      | true =>
                        as_aux_lemma =>
                          have hX := HX.out
                          obtain ⟨AL, cL, eL, -⟩ := own_form hX.ok.2
                          have hM1 : OM _ w.heap.size eb uk uv (keysOf yb) (valsOf yb) := hX.has (.tail _ (.head _))
                          have hM2 : OQ _ w.heap.size ob xk xv (keysOf yc) (valsOf yc) := hX.has (.tail _ (.tail _ (.head _)))
                          obtain ⟨AK, cK, AV, cV, eK, eV, -⟩ := om_copy hM1
                          obtain ⟨AX, cX, AY, cY, eX, eY, -⟩ := oq_copy hM2
                          have n1 : db ≠ ab := fun e => hX.apart2 (b := db) (List.Sublist.cons_cons _ (List.Sublist.cons _ (List.Sublist.cons _ (List.Sublist.cons _ (List.Sublist.cons_cons _ (List.nil_sublist _)))))) (.inl rfl) (.inl e)
                          have n2 : eb ≠ bb := fun e => hX.apart2 (b := eb) (List.Sublist.cons _ (List.Sublist.cons_cons _ (List.Sublist.cons _ (List.Sublist.cons _ (List.Sublist.cons _ (List.Sublist.cons_cons _ (List.nil_sublist _))))))) (.inl rfl) (.inl e)
                          have n3 : ob ≠ cb := fun e => hX.apart2 (b := ob) (List.Sublist.cons _ (List.Sublist.cons _ (List.Sublist.cons_cons _ (List.Sublist.cons _ (List.Sublist.cons _ (List.Sublist.cons _ (List.Sublist.cons_cons _ (List.nil_sublist _)))))))) (.inl rfl) (.inl e)
                          clear hX hM1 hM2
                          obtain ⟨la2, ela2⟩ : ∃ la2, la2 = ya.length := ⟨_, rfl⟩
                          obtain ⟨lb2, elb2⟩ : ∃ lb2, lb2 = yb.length := ⟨_, rfl⟩
                          obtain ⟨lc2, elc2⟩ : ∃ lc2, lc2 = yc.length := ⟨_, rfl⟩
                          rw [← ela2] at eL
                          rw [← elb2] at eK eV
                          rw [← elc2] at eX eY
                          subst eL eK eV eX eY
                          clear ela2 elb2 elc2
                          obtain ⟨CC, hCC⟩ : ∃ CC : Bool → Bool → Bool → World → Prop, CC = CopyT w g lb pb qb kb m2 q1 q2 q3 (i + 1) kv' db ab eb bb ob cb (.slice AL la2 cL) vL (.slice AK lb2 cK) (.slice AV lb2 cV) vk2 vv2 (.slice AX lc2 cX) (.slice AY lc2 cY) wk2 wv2 ya yb yc S := ⟨_, rfl⟩
                          have HC0 : Hid (CC false false false wc) := by rw [hCC]; exact cp_start HX.out
                          have HCQ : Hid (∀ b3 b4 b5 W W', CC b3 b4 b5 W → Q W W' → CC b3 b4 b5 W') := fun b3 b4 b5 W W' h hq => by rw [hCC] at h ⊢; exact cp_q h hq
                          have HR : Hid (∀ b3 b4 b5 W, CC b3 b4 b5 W → W.heap[db]? = some (.cells #[(.slice AL la2 cL)] 47 (0, 0)) ∧ W.heap[eb]? = some (.cells #[(.slice AK lb2 cK), (.slice AV lb2 cV)] 49 (0, 0)) ∧ W.heap[ob]? = some (.cells #[(.slice AX lc2 cX), (.slice AY lc2 cY)] 51 (0, 0)) ∧ (b3 = false → W.heap[ab]? = some (.cells #[vL] 47 (0, 0))) ∧ (b4 = false → W.heap[bb]? = some (.cells #[vk2, vv2] 49 (0, 0))) ∧ (b5 = false → W.heap[cb]? = some (.cells #[wk2, wv2] 51 (0, 0)))) := fun b3 b4 b5 W h => by rw [hCC] at h; exact cp_rows h
                          have H3 : Hid (∀ b4 b5 W, CC false b4 b5 W → CC true b4 b5 (W.setRow ab #[(.slice AL la2 cL)])) := fun b4 b5 W h => by rw [hCC] at h ⊢; exact cp_l h n1
                          have H4 : Hid (∀ b3 b5 W, CC b3 false b5 W → CC b3 true b5 (W.setRow bb #[(.slice AK lb2 cK), (.slice AV lb2 cV)])) := fun b3 b5 W h => by rw [hCC] at h ⊢; exact cp_m h n2
                          have H5 : Hid (∀ b3 b4 W, CC b3 b4 false W → CC b3 b4 true (W.setRow cb #[(.slice AX lc2 cX), (.slice AY lc2 cY)])) := fun b3 b4 W h => by rw [hCC] at h ⊢; exact cp_z h n3
                          have HEN : Hid (∀ W, CC true true true W → PT w g lb pb qb kb ab bb cb S B Hs (i + 1) W) := fun W h => by
                            rw [hCC] at h
                            rcases HC.out with ⟨-, e1, e2, e3⟩ | ⟨h9, -⟩
                            · have hP := HP.out
                              rw [e1, e2, e3] at hP
                              exact cp_end h hP e2
                            · rw [k9] at h9
                              cases h9
                          clear hCC HX HP HC n1 n2 n3
                          go_upto_region 51 with fail
                          refine Ri.madeY (C := fun (S0 : Nat → Bool) (f : Nat → Value) (W : World) => CC (S0 3) (S0 4) (S0 5) W) [3, 4, 5] [0, 1, 2, 3, 4, 5] [] (fun S0 S2 f f2 w1 w2 hk X hq => by obtain ⟨x1, -⟩ := hk 3 (by kernel_rfl); obtain ⟨x2, -⟩ := hk 4 (by kernel_rfl); obtain ⟨x3, -⟩ := hk 5 (by kernel_rfl); show CC (S2 3) (S2 4) (S2 5) w2; rw [x1, x2, x3]; exact HCQ.out _ _ _ _ _ X hq) (Ri.phi [Ri.isV (.agg #[(.slice AL la2 cL)]), Ri.isV (.agg #[(.slice AK lb2 cK), (.slice AV lb2 cV)]), Ri.isV (.agg #[(.slice AX lc2 cX), (.slice AY lc2 cY)]), (fun _ _ => True), (fun _ _ => True), (fun _ _ => True)]) (by kernel_rfl) (by kernel_rfl) (by kernel_rfl) (HCQ.out _ _ _ _ _ HC0.out (Q.refl _).drew) (Ri.phi_mono ?_) (Ri.phi_fix ?_) ?_ ?_
                          · exact ⟨Ri.mono_isV _, Ri.mono_isV _, Ri.mono_isV _, (fun _ _ _ h _ => h), (fun _ _ _ h _ => h), (fun _ _ _ h _ => h), trivial⟩
                          · exact ⟨fun _ => Ri.fix_isV _, fun _ => Ri.fix_isV _, fun _ => Ri.fix_isV _, (fun _ _ _ _ h => h), (fun _ _ _ _ h => h), (fun _ _ _ _ h => h), trivial⟩
                          · refine Ri.All.cons ?_ (Ri.All.cons ?_ (Ri.All.cons ?_ (Ri.All.cons ?_ (Ri.All.cons ?_ (Ri.All.cons ?_ (Ri.All.nil))))))
                            · refine Ri.StepY.q (by kernel_rfl) rfl fun S0 f W hS hD hq hf A hA hB hO => ?_
                              have e1 := (hB 23 (by kernel_rfl)).trans (show _ = .pointer (some ⟨db, 0, none⟩) by simp [Act.eval])
                              exact Ri.wp_value _ (Ri.run_ldrow rfl e1 ((HR.out _ _ _ _ hq).1) Tryz.underlying47 rfl (by kernel_rfl)) rfl
                            · refine Ri.StepY.q (by kernel_rfl) rfl fun S0 f W hS hD hq hf A hA hB hO => ?_
                              have e1 := (hB 24 (by kernel_rfl)).trans (show _ = .pointer (some ⟨eb, 0, none⟩) by simp [Act.eval])
                              exact Ri.wp_value _ (Ri.run_ldrow rfl e1 ((HR.out _ _ _ _ hq).2.1) Tryz.underlying49 rfl (by kernel_rfl)) rfl
                            · refine Ri.StepY.q (by kernel_rfl) rfl fun S0 f W hS hD hq hf A hA hB hO => ?_
                              have e1 := (hB 25 (by kernel_rfl)).trans (show _ = .pointer (some ⟨ob, 0, none⟩) by simp [Act.eval])
                              exact Ri.wp_value _ (Ri.run_ldrow rfl e1 ((HR.out _ _ _ _ hq).2.2.1) Tryz.underlying51 rfl (by kernel_rfl)) rfl
                            · refine Ri.StepY.c (by kernel_rfl) rfl fun S0 f W hS hD hq hf A hA hB hO => ?_
                              have e1 := (hB 18 (by kernel_rfl)).trans (show _ = .pointer (some ⟨ab, 0, none⟩) by simp [Act.eval])
                              have e2 := (hA 255 0 (by kernel_rfl) (by simp)).trans (show f 0 = _ from hf 0 (by kernel_rfl))
                              have hq0 : CC (false) (S0 4) (S0 5) W := by have h : CC (S0 3) (S0 4) (S0 5) W := hq; rw [hS] at h; exact h
                              refine wp_store_row _ _ _ rfl _ #[(.slice AL la2 cL)] e1 e2 _ _ ((HR.out _ _ _ _ hq0).2.2.2.1 rfl) (by kernel_rfl) rfl (by simp [Value.oneCell']) ⟨undef, rfl, ?_, trivial⟩
                              show CC (Ri.upd S0 3 true 3) (Ri.upd S0 3 true 4) (Ri.upd S0 3 true 5) _
                              rw [Ri.upd_at, Ri.upd_ne _ _ (by decide), Ri.upd_ne _ _ (by decide)]
                              exact H3.out _ _ _ hq0
                            · refine Ri.StepY.c (by kernel_rfl) rfl fun S0 f W hS hD hq hf A hA hB hO => ?_
                              have e1 := (hB 19 (by kernel_rfl)).trans (show _ = .pointer (some ⟨bb, 0, none⟩) by simp [Act.eval])
                              have e2 := (hA 256 1 (by kernel_rfl) (by simp)).trans (show f 1 = _ from hf 1 (by kernel_rfl))
                              have hq0 : CC (S0 3) (false) (S0 5) W := by have h : CC (S0 3) (S0 4) (S0 5) W := hq; rw [hS] at h; exact h
                              refine wp_store_row _ _ _ rfl _ #[(.slice AK lb2 cK), (.slice AV lb2 cV)] e1 e2 _ _ ((HR.out _ _ _ _ hq0).2.2.2.2.1 rfl) (by kernel_rfl) rfl (by simp [Value.oneCell']) ⟨undef, rfl, ?_, trivial⟩
                              show CC (Ri.upd S0 4 true 3) (Ri.upd S0 4 true 4) (Ri.upd S0 4 true 5) _
                              rw [Ri.upd_ne _ _ (by decide), Ri.upd_at, Ri.upd_ne _ _ (by decide)]
                              exact H4.out _ _ _ hq0
                            · refine Ri.StepY.c (by kernel_rfl) rfl fun S0 f W hS hD hq hf A hA hB hO => ?_
                              have e1 := (hB 20 (by kernel_rfl)).trans (show _ = .pointer (some ⟨cb, 0, none⟩) by simp [Act.eval])
                              have e2 := (hA 257 2 (by kernel_rfl) (by simp)).trans (show f 2 = _ from hf 2 (by kernel_rfl))
                              have hq0 : CC (S0 3) (S0 4) (false) W := by have h : CC (S0 3) (S0 4) (S0 5) W := hq; rw [hS] at h; exact h
                              refine wp_store_row _ _ _ rfl _ #[(.slice AX lc2 cX), (.slice AY lc2 cY)] e1 e2 _ _ ((HR.out _ _ _ _ hq0).2.2.2.2.2 rfl) (by kernel_rfl) rfl (by simp [Value.oneCell']) ⟨undef, rfl, ?_, trivial⟩
                              show CC (Ri.upd S0 5 true 3) (Ri.upd S0 5 true 4) (Ri.upd S0 5 true 5) _
                              rw [Ri.upd_ne _ _ (by decide), Ri.upd_ne _ _ (by decide), Ri.upd_at]
                              exact H5.out _ _ _ hq0
                          · intro S0 f W5 hS hq hf
                            have hcc : CC true true true W5 := by have h : CC (S0 3) (S0 4) (S0 5) W5 := hq; rw [hS 3 (by simp), hS 4 (by simp), hS 5 (by simp)] at h; exact h
                            have HPT := hide (HEN.out _ hcc)
                            simp only [Ri.acts, Act.put, List.setIfInBounds_toArray, List.set_cons_zero, List.set_cons_succ, Nat.zero_add, Nat.reduceAdd]
                            clear hf hq hS hcc
                            go_wp2_with fail
                            go_meet
                            exact HPT.out
                  case rest =>
                    as_aux_lemma =>
                      clear HX HP HC
                      clear m2 q1 q2 q3
                      obtain ⟨m3, r1, r2, r3, xs3, kv3, zs3, vL, vk3, vv3, wk3, wv3, X, P⟩ := hcut
                      obtain ⟨A1, c1, eL, -⟩ := own_form X.ok.2
                      have hM1 : OM _ w.heap.size bb vk3 vv3 (keysOf kv3) (valsOf kv3) := X.has (.tail _ (.head _))
                      have hM2 : OQ _ w.heap.size cb wk3 wv3 (keysOf zs3) (valsOf zs3) := X.has (.tail _ (.tail _ (.head _)))
                      obtain ⟨A2, c2, A3, c3, eK, eV, -⟩ := om_copy hM1
                      obtain ⟨A4, c4, A5, c5, eX, eY, -⟩ := oq_copy hM2
                      subst eL eK eV eX eY
                      clear hM1 hM2
                      have hik := isKept_any X P (.head _) (.tail _ (.head _)) (.tail _ (.tail _ (.head _)))
                      obtain ⟨l1, el1⟩ : ∃ l1, l1 = xs3.length := ⟨_, rfl⟩
                      obtain ⟨l2, el2⟩ : ∃ l2, l2 = kv3.length := ⟨_, rfl⟩
                      obtain ⟨l3, el3⟩ : ∃ l3, l3 = zs3.length := ⟨_, rfl⟩
                      rw [← el1, ← el2, ← el3] at hik X
                      have HIK := hide hik
                      have hb1 : _ = _ := X.has (it := iL w.heap.size ab (.slice A1 l1 c1) xs3) (.head _) |>.1
                      have hb2 : OM _ w.heap.size bb (.slice A2 l2 c2) (.slice A3 l2 c3) (keysOf kv3) (valsOf kv3) := X.has (.tail _ (.head _))
                      have hb3 : OQ _ w.heap.size cb (.slice A4 l3 c4) (.slice A5 l3 c5) (keysOf zs3) (valsOf zs3) := X.has (.tail _ (.tail _ (.head _)))
                      have y1 : wc.cell? ⟨ab, 0, none⟩ = some (.slice A1 l1 c1) := by rw [cell_of_row _ _ _ _ _ _ hb1]; rfl
                      have y2 : wc.cell? ⟨bb, 0, none⟩ = some (.slice A2 l2 c2) := by rw [cell_of_row _ _ _ _ _ _ hb2.box]; rfl
                      have y3 : wc.cell? ⟨bb, 1, none⟩ = some (.slice A3 l2 c3) := by rw [cell_of_row _ _ _ _ _ _ hb2.box]; rfl
                      have y4 : wc.cell? ⟨cb, 0, none⟩ = some (.slice A4 l3 c4) := by rw [cell_of_row _ _ _ _ _ _ hb3.box]; rfl
                      have y5 : wc.cell? ⟨cb, 1, none⟩ = some (.slice A5 l3 c5) := by rw [cell_of_row _ _ _ _ _ _ hb3.box]; rfl
                      have HP := hide P
                      have HI := hide P.inv
                      clear hb1 hb2 hb3 hik X P el1 el2 el3
                      go_upto_region 54 with (go_at_call 30; go_loud (refine HIK.out.mono ?_); rintro e w30 ⟨rfl, hX⟩; have HX30 := hide hX; clear hX)
                      clear y1 y2 y3 y4 y5 HIK
                      obtain ⟨N, hN⟩ : ∃ N, N = (stretches m3).length := ⟨_, rfl⟩
                      have hN64 : N ≤ 64 := by rw [hN]; unfold stretches; rw [List.length_map]; exact HI.out.len
                      have hNi : (N : Int) ≤ 64 := by omega
                      have HLV := hide (ts_live HX30.out HI.out)
                      rw [← hN] at HLV
                      have HNN := hide hN
                      clear hN
                      go_upto_region 55 with (go_at_call 12; go_loud (refine HLV.out.mono ?_); rintro e w31 ⟨⟨A9x, c9x, rfl, hS⟩, hX⟩; have HSL9 := hide hS; have HX31 := hide hX; clear hS hX)
                      clear HLV HX30
                      go_wp2_with fail
                      go_loopw [29] (fun vp wr => ∃ p : Nat, 1 ≤ p ∧ vp = .int .i64 (p : Int) ∧ p ≤ N + 1 ∧ Q w31 wr) (fun vp _ => N + 1 - (intOf vp).toNat)
                      case atStart => exact ⟨1, by omega, rfl, by omega, Q.refl _⟩
                      case round =>
                        obtain ⟨p, hp1, rfl, hpN, hq31⟩ := hrel
                        have hpi : (p : Int) ≤ 65 := by omega
                        have hp1i : (1 : Int) ≤ (p : Int) := by omega
                        by_cases hlp : p < N
                        · have hd1 : decide ((p : Int) < (N : Int)) = true := by simp; omega
                          have hd0 : decide (p < N) = true := by simp; omega
                          have hlti : (p : Int) < (N : Int) := by omega
                          obtain ⟨p0, hp0⟩ : ∃ p0, p0 = p - 1 := ⟨_, rfl⟩
                          have hp0i : (p : Int) - 1 = (p0 : Int) := by omega
                          have hp0N : (p0 : Int) < (N : Int) := by omega
                          obtain ⟨b2, o2, a2, l9, hA2, hbl, hx, y1, y2⟩ := (HSL9.out.up hq31).strT p hlp
                          obtain ⟨b4, o4, a4, l4, hA4, hbl4, hx4, z1, z2⟩ := (HSL9.out.up hq31).strT p0 (by omega)
                          subst hA2
                          cases hA4
                          obtain ⟨f1, f2, f3, f4⟩ := strT_facts HI.out hx
                          have f5 := f4 a4 l4 (by omega) (by rw [← hp0]; exact hx4)
                          obtain ⟨g1, g2, g3, -⟩ := strT_facts HI.out hx4
                          have t6 : decide (a2 < a4 + l4) = false := decide_eq_false (by omega)
                          have hp0n : p0 < N := by omega
                          clear f4 hx hx4 hp0
                          go_upto_region 58 with fail
                          have hxc := ext_cell
                          refine wp_region_ext (by kernel_rfl) (by kernel_rfl) ?_
                          repeat (go_big_quiet_step ((fail)))
                          clear hxc
                          refine wpQuiet_nil ?_
                          intro w4x hww4x
                          have hqw4x := q_of_ext hww4x
                          clear hww4x
                          obtain ⟨hcw4x, hfw4x, hzw4x⟩ := hqw4x.facts
                          try simp at hzw4x
                          try have hs0w4x : w.heap.size < w4x.heap.size := by omega
                          try have hs1w4x : w.heap.size + 1 < w4x.heap.size := by omega
                          go_wp2_with fail
                          go_roundw
                          case rel => exact ⟨p + 1, by omega, by go_num, by omega, hq31.trans hqw4x⟩
                          case measure => simp [intOf] <;> omega
                        · have hd1 : decide ((p : Int) < (N : Int)) = false := decide_eq_false (by omega)
                          have hd0 : decide (p < N) = false := decide_eq_false (by omega)
                          have HXE := hide (HX31.out.q hq31)
                          go_wp2_with fail
                          go_roundg (gk - 1)
                          case measure => omega
                          case rel => exact ⟨i + 1, by omega, by go_num, by omega, m3, r1, r2, r3, xs3, kv3, zs3, _, _, _, _, _, HXE.out, HP.out⟩
      · as_aux_lemma =>
          have hd1 : decide ((i : Int) < (n : Int)) = false := decide_eq_false (by omega)
          have hd0 : decide (i < n) = false := decide_eq_false (by omega)
          obtain ⟨m, r1, r2, r3, xs, kv, zs, vL, vk, vv, wk, wv, X, P⟩ := hp
          have hM1 : OM _ w.heap.size bb vk vv (keysOf kv) (valsOf kv) := X.has (.tail _ (.head _))
          obtain ⟨A2, d2, A3, d3, eK, eV, -⟩ := om_copy hM1
          clear hM1
          have l64 : kv.length ≤ 64 := P.mp.l64
          obtain ⟨lm, elm⟩ : ∃ lm, lm = kv.length := ⟨_, rfl⟩
          rw [← elm] at eK eV
          subst eK eV
          have HLM := hide elm
          obtain ⟨CC, hCC⟩ : ∃ CC : Bool → Bool → Bool → World → Prop, CC = EndT w g lb pb qb kb i xs kv zs B Hs [iL w.heap.size ab vL xs, iM w.heap.size bb (.slice A2 lm d2) (.slice A3 lm d3) kv, iQ w.heap.size cb wk wv zs, S] := ⟨_, rfl⟩
          have HC0 : Hid (CC false false false wr) := by rw [hCC]; exact ⟨(fun e => by cases e), (fun _ e => by cases e), (fun _ _ e => by cases e), fun _ _ _ => ⟨m, r1, r2, r3, X, P⟩⟩
          have HCQ : Hid (∀ b3 b4 b5 W W', CC b3 b4 b5 W → Q W W' → CC b3 b4 b5 W') := fun b3 b4 b5 W W' h hq => by rw [hCC] at h ⊢; exact et_q h hq
          have H1 : Hid (∀ W, CC false false false W → Calls Tryz.prog 31 #[.pointer (some ⟨lb, 0, none⟩)] W fun e W' => e = .returned (.int .i64 0) ∧ CC true false false W') := fun W h => by rw [hCC] at h ⊢; exact et_1 h
          have H5 : Hid (∀ W, CC true false false W → Calls Tryz.prog 32 #[.pointer (some ⟨qb, 0, none⟩)] W fun e W' => e = .returned (.int .i64 0) ∧ CC true true false W') := fun W h => by rw [hCC] at h ⊢; exact et_5 h
          have H10 : Hid (∀ W, CC true true false W → Calls Tryz.prog 34 #[.pointer (some ⟨pb, 0, none⟩)] W fun e W' => ∃ u, e = .returned u ∧ CC true true false W' ∧ ∃ A c, u = .slice A lm c ∧ Sl 1 (encI .i64) W' A lm c (keysOf kv)) := fun W h => by rw [hCC] at h ⊢; rw [elm]; have h2 := h; rw [elm] at h2; exact et_10 h2
          have H18 : Hid (∀ W, CC true true false W → Calls Tryz.prog 35 #[.pointer (some ⟨pb, 0, none⟩)] W fun e W' => e = .returned (.int .i64 0) ∧ CC true true true W') := fun W h => by rw [hCC] at h ⊢; exact et_18 h
          have H23 : Hid (∀ W, CC true true true W → Calls Tryz.prog 12 #[.pointer (some ⟨g, 0, none⟩)] W fun e W' => ∃ u, e = .returned u ∧ CC true true true W' ∧ ∃ A c, u = .slice A sn c ∧ Sl 2 encP W' A sn c B) := fun W h => by rw [hCC] at h ⊢; rw [HES.out.2.1]; exact et_23 h
          have HCM : Hid (∀ b3 b4 b5 W, CC b3 b4 b5 W → W.cell? ⟨bb, 0, none⟩ = some (.slice A2 lm d2)) := fun b3 b4 b5 W h => by
            rw [hCC] at h
            have h2 : OM W w.heap.size bb (.slice A2 lm d2) (.slice A3 lm d3) (keysOf kv) (valsOf kv) := et_item h (.tail _ (.head _))
            rw [cell_of_row _ _ _ _ _ _ h2.box]; rfl
          have HSI : Hid (∀ b3 b4 b5 W A c, CC b3 b4 b5 W → Sl 1 (encI .i64) W A lm c (keysOf kv) → Calls Tryz.prog 33 #[.slice A lm c, .slice A2 lm d2] W fun e w' => e = .returned (.bool true) ∧ Q W w') := fun b3 b4 b5 W A c h hs => by
            rw [hCC] at h
            have h2 : OM W w.heap.size bb (.slice A2 lm d2) (.slice A3 lm d3) (keysOf kv) (valsOf kv) := et_item h (.tail _ (.head _))
            have hkl : lm = (keysOf kv).length := by rw [elm]; unfold keysOf; rw [List.length_map]
            have h3 := h2.ok
            rw [← hkl] at h3
            exact SameInts_same A lm c A2 d2 (keysOf kv) W hs (own_sl hkl h3) (by omega)
          have HSS : Hid (∀ b3 b4 b5 W A c, CC b3 b4 b5 W → Sl 2 encP W A sn c B → Calls Tryz.prog 16 #[.slice A sn c, .slice A9 sn c9] W fun e w' => e = .returned (.bool true) ∧ Q W w') := fun b3 b4 b5 W A c h hs => by
            rw [hCC] at h
            have h2 : S.ok W := et_item h (.tail _ (.tail _ (.tail _ (.head _))))
            obtain ⟨e1, e2, e3⟩ := HES.out
            rw [e1] at h2
            have ho : W.ownsRow w.heap.size 64 2 (.slice A9 sn c9) sn (B.flatMap encP) := h2
            rw [e2] at ho hs ⊢
            obtain ⟨A3x, c3x, e3x, h2x⟩ := str_sl ho
            injection e3x with e4 e5 e6
            subst e4
            subst e6
            exact SameStr_same _ _ _ _ _ _ W hs h2x e3
          have HLD : Hid (∀ W, (er != 0) = false → CC true true true W → Calls Tryz.prog 36 #[.pointer (some ⟨g, 0, none⟩), .int .i64 at_] W fun e W' => e = .returned (.tuple #[.int .i64 77, .int .i64 0]) ∧ Q w W') := fun W h0 h => by
            rw [hCC] at h
            refine et_load h ?_
            rw [HHS.out]
            unfold HsOf
            rw [if_pos (by simpa using h0)]
            exact List.mem_singleton.2 rfl
          have HTQ : Hid (∀ W, CC true true true W → Q w W) := fun W h => by rw [hCC] at h; exact et_toQ h
          clear hCC X P elm HES HHS HLM HSL
          go_upto_region 60 with fail
          refine Ri.madeY (C := fun (S0 : Nat → Bool) (f : Nat → Value) (W : World) => CC (S0 1) (S0 5) (S0 18) W) [1, 5, 10, 18, 23] [0, 1, 2, 3, 4, 5, 6, 7, 8, 9, 11, 12, 13, 14, 15, 16, 17, 18, 19, 20, 21, 22, 24, 25, 26, 27] [0, 1, 2, 3, 4, 5, 6, 7, 8, 9, 10, 11, 12, 14, 15, 16, 17, 18, 19, 20, 21, 22, 23, 24, 26, 27] (fun S0 S2 f f2 w1 w2 hk X hq => by obtain ⟨x1, -⟩ := hk 1 (by kernel_rfl); obtain ⟨x2, -⟩ := hk 5 (by kernel_rfl); obtain ⟨x3, -⟩ := hk 18 (by kernel_rfl); show CC (S2 1) (S2 5) (S2 18) w2; rw [x1, x2, x3]; exact HCQ.out _ _ _ _ _ X hq) (Ri.phi [Ri.isV (.pointer (some ⟨lb, 0, none⟩)), Ri.isV (.int .i64 0), Ri.isV (.bool false), Ri.isV (.bool false), Ri.isV (.pointer (some ⟨qb, 0, none⟩)), Ri.isV (.int .i64 0), Ri.isV (.bool false), Ri.isV (.bool false), Ri.isV (.bool false), Ri.isV (.pointer (some ⟨pb, 0, none⟩)), (fun u W => ∃ A c, u = .slice A lm c ∧ Sl 1 (encI .i64) W A lm c (keysOf kv)), Ri.isV (.pointer (some ⟨bb, 0, none⟩)), Ri.isV (.slice A2 lm d2), Ri.isV (.bool true), Ri.isV (.bool false), Ri.isV (.bool false), Ri.isV (.bool false), Ri.isV (.pointer (some ⟨pb, 0, none⟩)), Ri.isV (.int .i64 0), Ri.isV (.bool false), Ri.isV (.bool false), Ri.isV (.bool false), Ri.isV (.pointer (some ⟨g, 0, none⟩)), (fun u W => ∃ A c, u = .slice A sn c ∧ Sl 2 encP W A sn c B), Ri.isV (.slice A9 sn c9), Ri.isV (.bool true), Ri.isV (.bool false), Ri.isV (.bool false)]) (by kernel_rfl) (by kernel_rfl) (by kernel_rfl) (HCQ.out _ _ _ _ _ HC0.out (Q.refl _).drew) (Ri.phi_mono ?_) (Ri.phi_fix ?_) ?_ ?_
          · exact ⟨Ri.mono_isV _, Ri.mono_isV _, Ri.mono_isV _, Ri.mono_isV _, Ri.mono_isV _, Ri.mono_isV _, Ri.mono_isV _, Ri.mono_isV _, Ri.mono_isV _, Ri.mono_isV _, (fun v w1 w2 ⟨A, c, e, h⟩ hq => ⟨A, c, e, h.up hq⟩), Ri.mono_isV _, Ri.mono_isV _, Ri.mono_isV _, Ri.mono_isV _, Ri.mono_isV _, Ri.mono_isV _, Ri.mono_isV _, Ri.mono_isV _, Ri.mono_isV _, Ri.mono_isV _, Ri.mono_isV _, Ri.mono_isV _, (fun v w1 w2 ⟨A, c, e, h⟩ hq => ⟨A, c, e, h.up hq⟩), Ri.mono_isV _, Ri.mono_isV _, Ri.mono_isV _, Ri.mono_isV _, trivial⟩
          · exact ⟨fun _ => Ri.fix_isV _, fun _ => Ri.fix_isV _, fun _ => Ri.fix_isV _, fun _ => Ri.fix_isV _, fun _ => Ri.fix_isV _, fun _ => Ri.fix_isV _, fun _ => Ri.fix_isV _, fun _ => Ri.fix_isV _, fun _ => Ri.fix_isV _, fun _ => Ri.fix_isV _, fun h => absurd h (by decide), fun _ => Ri.fix_isV _, fun _ => Ri.fix_isV _, fun _ => Ri.fix_isV _, fun _ => Ri.fix_isV _, fun _ => Ri.fix_isV _, fun _ => Ri.fix_isV _, fun _ => Ri.fix_isV _, fun _ => Ri.fix_isV _, fun _ => Ri.fix_isV _, fun _ => Ri.fix_isV _, fun _ => Ri.fix_isV _, fun _ => Ri.fix_isV _, fun h => absurd h (by decide), fun _ => Ri.fix_isV _, fun _ => Ri.fix_isV _, fun _ => Ri.fix_isV _, fun _ => Ri.fix_isV _, trivial⟩
          · refine Ri.All.cons ?_ (Ri.All.cons ?_ (Ri.All.cons ?_ (Ri.All.cons ?_ (Ri.All.cons ?_ (Ri.All.cons ?_ (Ri.All.cons ?_ (Ri.All.cons ?_ (Ri.All.cons ?_ (Ri.All.cons ?_ (Ri.All.cons ?_ (Ri.All.cons ?_ (Ri.All.cons ?_ (Ri.All.cons ?_ (Ri.All.cons ?_ (Ri.All.cons ?_ (Ri.All.cons ?_ (Ri.All.cons ?_ (Ri.All.cons ?_ (Ri.All.cons ?_ (Ri.All.cons ?_ (Ri.All.cons ?_ (Ri.All.cons ?_ (Ri.All.cons ?_ (Ri.All.cons ?_ (Ri.All.cons ?_ (Ri.All.cons ?_ (Ri.All.cons ?_ (Ri.All.nil))))))))))))))))))))))))))))
            · refine Ri.StepY.q (by kernel_rfl) rfl fun S0 f W hS hD hq hf A hA hB hO => ?_
              have e1 := (hB 12 (by kernel_rfl)).trans (show _ = .pointer (some ⟨lb, 0, none⟩) by simp [Act.eval])
              exact Ri.wp_value _ (Ri.run_mv rfl e1) rfl
            · refine Ri.StepY.c (by kernel_rfl) rfl fun S0 f W hS hD hq hf A hA hB hO => ?_
              have e1 := (hA 293 0 (by kernel_rfl) (by simp)).trans (show f 0 = _ from hf 0 (by kernel_rfl))
              have n5 : S0 5 = false := (hO 5 (by kernel_rfl)).1
              have n18 : S0 18 = false := (hO 18 (by kernel_rfl)).1
              have hq0 : CC false false false W := by have h : CC (S0 1) (S0 5) (S0 18) W := hq; rw [n5, n18, hS] at h; exact h
              refine Ri.wp_callY #[.pointer (some ⟨lb, 0, none⟩)] rfl (by simp [e1]) Tryz.func31 (by kernel_rfl) (by kernel_rfl) ((H1.out W hq0).mono ?_)
              rintro e w3 ⟨rfl, hX3⟩
              refine ⟨_, rfl, ?_, rfl⟩
              show CC (Ri.upd S0 1 true 1) (Ri.upd S0 1 true 5) (Ri.upd S0 1 true 18) w3
              rw [Ri.upd_at, Ri.upd_ne _ _ (by decide), Ri.upd_ne _ _ (by decide), n5, n18]
              exact hX3
            · refine Ri.StepY.q (by kernel_rfl) rfl fun S0 f W hS hD hq hf A hA hB hO => ?_
              have e1 := (hA 294 1 (by kernel_rfl) (by simp)).trans (show f 1 = _ from hf 1 (by kernel_rfl))
              exact Ri.wp_value _ ((run_neqT rfl e1 rfl Tryz.underlying26).trans (by simp)) rfl
            · refine Ri.StepY.q (by kernel_rfl) rfl fun S0 f W hS hD hq hf A hA hB hO => ?_
              have e1 := (hA 295 2 (by kernel_rfl) (by simp)).trans (show f 2 = _ from hf 2 (by kernel_rfl))
              exact Ri.wp_value _ (Ri.run_mv rfl e1) rfl
            · refine Ri.StepY.gq (by kernel_rfl) rfl rfl (by simp) fun S0 f W hS hD hq hf A hA hB hO => ⟨hf 3 (by kernel_rfl), ?_⟩
              have e1 := (hB 16 (by kernel_rfl)).trans (show _ = .pointer (some ⟨qb, 0, none⟩) by simp [Act.eval])
              exact Ri.wp_value _ (Ri.run_mv rfl e1) rfl
            · refine Ri.StepY.gc (by kernel_rfl) rfl rfl (by simp) fun S0 f W hS hD hq hf A hA hB hO => ⟨hf 3 (by kernel_rfl), ?_⟩
              have e1 := (hA 297 4 (by kernel_rfl) (by simp)).trans (show f 4 = _ from hf 4 (by kernel_rfl))
              have y1 : S0 1 = true := hD 1 (by kernel_rfl)
              have n18 : S0 18 = false := (hO 18 (by kernel_rfl)).1
              have hq0 : CC true false false W := by have h : CC (S0 1) (S0 5) (S0 18) W := hq; rw [y1, n18, hS] at h; exact h
              refine Ri.wp_callY #[.pointer (some ⟨qb, 0, none⟩)] rfl (by simp [e1]) Tryz.func32 (by kernel_rfl) (by kernel_rfl) ((H5.out W hq0).mono ?_)
              rintro e w3 ⟨rfl, hX3⟩
              refine ⟨_, rfl, ?_, rfl⟩
              show CC (Ri.upd S0 5 true 1) (Ri.upd S0 5 true 5) (Ri.upd S0 5 true 18) w3
              rw [Ri.upd_ne _ _ (by decide), Ri.upd_at, Ri.upd_ne _ _ (by decide), y1, n18]
              exact hX3
            · refine Ri.StepY.gq (by kernel_rfl) rfl rfl (by simp) fun S0 f W hS hD hq hf A hA hB hO => ⟨hf 3 (by kernel_rfl), ?_⟩
              have e1 := (hA 298 5 (by kernel_rfl) (by simp)).trans (show f 5 = _ from hf 5 (by kernel_rfl))
              exact Ri.wp_value _ ((run_neqT rfl e1 rfl Tryz.underlying26).trans (by simp)) rfl
            · refine Ri.StepY.q (by kernel_rfl) rfl fun S0 f W hS hD hq hf A hA hB hO => ?_
              have e1 := (hA 296 3 (by kernel_rfl) (by simp)).trans (show f 3 = _ from hf 3 (by kernel_rfl))
              have e2 := (hA 299 6 (by kernel_rfl) (by simp)).trans (show f 6 = _ from hf 6 (by kernel_rfl))
              exact Ri.wp_value _ (Ri.run_pick rfl e1 (by simpa using e2)) rfl
            · refine Ri.StepY.q (by kernel_rfl) rfl fun S0 f W hS hD hq hf A hA hB hO => ?_
              have e1 := (hA 300 7 (by kernel_rfl) (by simp)).trans (show f 7 = _ from hf 7 (by kernel_rfl))
              exact Ri.wp_value _ (Ri.run_mv rfl e1) rfl
            · refine Ri.StepY.gq (by kernel_rfl) rfl rfl (by simp) fun S0 f W hS hD hq hf A hA hB hO => ⟨hf 8 (by kernel_rfl), ?_⟩
              have e1 := (hB 14 (by kernel_rfl)).trans (show _ = .pointer (some ⟨pb, 0, none⟩) by simp [Act.eval])
              exact Ri.wp_value _ (Ri.run_mv rfl e1) rfl
            · refine Ri.StepY.gc (by kernel_rfl) rfl rfl (by simp) fun S0 f W hS hD hq hf A hA hB hO => ⟨hf 8 (by kernel_rfl), ?_⟩
              have e1 := (hA 302 9 (by kernel_rfl) (by simp)).trans (show f 9 = _ from hf 9 (by kernel_rfl))
              have y1 : S0 1 = true := hD 1 (by kernel_rfl)
              have y5 : S0 5 = true := hD 5 (by kernel_rfl)
              have n18 : S0 18 = false := (hO 18 (by kernel_rfl)).1
              have hq0 : CC true true false W := by have h : CC (S0 1) (S0 5) (S0 18) W := hq; rw [y1, y5, n18] at h; exact h
              refine Ri.wp_callY #[.pointer (some ⟨pb, 0, none⟩)] rfl (by simp [e1]) Tryz.func34 (by kernel_rfl) (by kernel_rfl) ((H10.out W hq0).mono ?_)
              rintro e w3 ⟨u, rfl, hX3, hp3⟩
              refine ⟨u, rfl, ?_, hp3⟩
              show CC (Ri.upd S0 10 true 1) (Ri.upd S0 10 true 5) (Ri.upd S0 10 true 18) w3
              rw [Ri.upd_ne _ _ (by decide), Ri.upd_ne _ _ (by decide), Ri.upd_ne _ _ (by decide), y1, y5, n18]
              exact hX3
            · refine Ri.StepY.gq (by kernel_rfl) rfl rfl (by simp) fun S0 f W hS hD hq hf A hA hB hO => ⟨hf 8 (by kernel_rfl), ?_⟩
              have e1 := (hB 19 (by kernel_rfl)).trans (show _ = .pointer (some ⟨bb, 0, none⟩) by simp [Act.eval])
              exact Ri.wp_value _ (Ri.run_fld (f := _) rfl e1 Tryz.underlying49 rfl (sz := 0) (by kernel_rfl)) rfl
            · refine Ri.StepY.gq (by kernel_rfl) rfl rfl (by simp) fun S0 f W hS hD hq hf A hA hB hO => ⟨hf 8 (by kernel_rfl), ?_⟩
              have e1 := (hA 304 11 (by kernel_rfl) (by simp)).trans (show f 11 = _ from hf 11 (by kernel_rfl))
              exact Ri.wp_value _ (Ri.run_ld1 rfl e1 Tryz.underlying45 rfl (HCM.out _ _ _ W hq)) rfl
            · refine Ri.StepY.gq (by kernel_rfl) rfl rfl (by simp) fun S0 f W hS hD hq hf A hA hB hO => ⟨hf 8 (by kernel_rfl), ?_⟩
              obtain ⟨A9x, c9x, e0, hSx⟩ : ∃ A c, f 10 = .slice A lm c ∧ Sl 1 (encI .i64) W A lm c (keysOf kv) := hf 10 (by kernel_rfl)
              have e1 := (hA 303 10 (by kernel_rfl) (by simp)).trans e0
              have e2 := (hA 305 12 (by kernel_rfl) (by simp)).trans (show f 12 = _ from hf 12 (by kernel_rfl))
              refine Ri.wp_call #[.slice A9x lm c9x, .slice A2 lm d2] rfl (by simp [e1, e2]) Tryz.func33 (by kernel_rfl) (by kernel_rfl) ((HSI.out _ _ _ W A9x c9x hq hSx).mono ?_)
              rintro e w3 ⟨rfl, hq3⟩
              exact ⟨_, rfl, hq3, rfl⟩
            · refine Ri.StepY.gq (by kernel_rfl) rfl rfl (by simp) fun S0 f W hS hD hq hf A hA hB hO => ⟨hf 8 (by kernel_rfl), ?_⟩
              have e1 := (hA 306 13 (by kernel_rfl) (by simp)).trans (show f 13 = _ from hf 13 (by kernel_rfl))
              exact Ri.wp_value _ ((Ri.run_not rfl e1).trans (by simp)) rfl
            · refine Ri.StepY.q (by kernel_rfl) rfl fun S0 f W hS hD hq hf A hA hB hO => ?_
              have e1 := (hA 301 8 (by kernel_rfl) (by simp)).trans (show f 8 = _ from hf 8 (by kernel_rfl))
              have e2 := (hA 307 14 (by kernel_rfl) (by simp)).trans (show f 14 = _ from hf 14 (by kernel_rfl))
              exact Ri.wp_value _ (Ri.run_pick rfl e1 (by simpa using e2)) rfl
            · refine Ri.StepY.q (by kernel_rfl) rfl fun S0 f W hS hD hq hf A hA hB hO => ?_
              have e1 := (hA 308 15 (by kernel_rfl) (by simp)).trans (show f 15 = _ from hf 15 (by kernel_rfl))
              exact Ri.wp_value _ (Ri.run_mv rfl e1) rfl
            · refine Ri.StepY.gq (by kernel_rfl) rfl rfl (by simp) fun S0 f W hS hD hq hf A hA hB hO => ⟨hf 16 (by kernel_rfl), ?_⟩
              have e1 := (hB 14 (by kernel_rfl)).trans (show _ = .pointer (some ⟨pb, 0, none⟩) by simp [Act.eval])
              exact Ri.wp_value _ (Ri.run_mv rfl e1) rfl
            · refine Ri.StepY.gc (by kernel_rfl) rfl rfl (by simp) fun S0 f W hS hD hq hf A hA hB hO => ⟨hf 16 (by kernel_rfl), ?_⟩
              have e1 := (hA 310 17 (by kernel_rfl) (by simp)).trans (show f 17 = _ from hf 17 (by kernel_rfl))
              have y1 : S0 1 = true := hD 1 (by kernel_rfl)
              have y5 : S0 5 = true := hD 5 (by kernel_rfl)
              have hq0 : CC true true false W := by have h : CC (S0 1) (S0 5) (S0 18) W := hq; rw [y1, y5, hS] at h; exact h
              refine Ri.wp_callY #[.pointer (some ⟨pb, 0, none⟩)] rfl (by simp [e1]) Tryz.func35 (by kernel_rfl) (by kernel_rfl) ((H18.out W hq0).mono ?_)
              rintro e w3 ⟨rfl, hX3⟩
              refine ⟨_, rfl, ?_, rfl⟩
              show CC (Ri.upd S0 18 true 1) (Ri.upd S0 18 true 5) (Ri.upd S0 18 true 18) w3
              rw [Ri.upd_ne _ _ (by decide), Ri.upd_ne _ _ (by decide), Ri.upd_at, y1, y5]
              exact hX3
            · refine Ri.StepY.gq (by kernel_rfl) rfl rfl (by simp) fun S0 f W hS hD hq hf A hA hB hO => ⟨hf 16 (by kernel_rfl), ?_⟩
              have e1 := (hA 311 18 (by kernel_rfl) (by simp)).trans (show f 18 = _ from hf 18 (by kernel_rfl))
              exact Ri.wp_value _ ((run_neqT rfl e1 rfl Tryz.underlying26).trans (by simp)) rfl
            · refine Ri.StepY.q (by kernel_rfl) rfl fun S0 f W hS hD hq hf A hA hB hO => ?_
              have e1 := (hA 309 16 (by kernel_rfl) (by simp)).trans (show f 16 = _ from hf 16 (by kernel_rfl))
              have e2 := (hA 312 19 (by kernel_rfl) (by simp)).trans (show f 19 = _ from hf 19 (by kernel_rfl))
              exact Ri.wp_value _ (Ri.run_pick rfl e1 (by simpa using e2)) rfl
            · refine Ri.StepY.q (by kernel_rfl) rfl fun S0 f W hS hD hq hf A hA hB hO => ?_
              have e1 := (hA 313 20 (by kernel_rfl) (by simp)).trans (show f 20 = _ from hf 20 (by kernel_rfl))
              exact Ri.wp_value _ (Ri.run_mv rfl e1) rfl
            · refine Ri.StepY.gq (by kernel_rfl) rfl rfl (by simp) fun S0 f W hS hD hq hf A hA hB hO => ⟨hf 21 (by kernel_rfl), ?_⟩
              have e1 := (hB 9 (by kernel_rfl)).trans (show _ = .pointer (some ⟨g, 0, none⟩) by simp [Act.eval])
              exact Ri.wp_value _ (Ri.run_mv rfl e1) rfl
            · refine Ri.StepY.gc (by kernel_rfl) rfl rfl (by simp) fun S0 f W hS hD hq hf A hA hB hO => ⟨hf 21 (by kernel_rfl), ?_⟩
              have e1 := (hA 315 22 (by kernel_rfl) (by simp)).trans (show f 22 = _ from hf 22 (by kernel_rfl))
              have y1 : S0 1 = true := hD 1 (by kernel_rfl)
              have y5 : S0 5 = true := hD 5 (by kernel_rfl)
              have y18 : S0 18 = true := hD 18 (by kernel_rfl)
              have hq0 : CC true true true W := by have h : CC (S0 1) (S0 5) (S0 18) W := hq; rw [y1, y5, y18] at h; exact h
              refine Ri.wp_callY #[.pointer (some ⟨g, 0, none⟩)] rfl (by simp [e1]) Tryz.func12 (by kernel_rfl) (by kernel_rfl) ((H23.out W hq0).mono ?_)
              rintro e w3 ⟨u, rfl, hX3, hp3⟩
              refine ⟨u, rfl, ?_, hp3⟩
              show CC (Ri.upd S0 23 true 1) (Ri.upd S0 23 true 5) (Ri.upd S0 23 true 18) w3
              rw [Ri.upd_ne _ _ (by decide), Ri.upd_ne _ _ (by decide), Ri.upd_ne _ _ (by decide), y1, y5, y18]
              exact hX3
            · refine Ri.StepY.gq (by kernel_rfl) rfl rfl (by simp) fun S0 f W hS hD hq hf A hA hB hO => ⟨hf 21 (by kernel_rfl), ?_⟩
              have e1 := (hB 11 (by kernel_rfl)).trans (show _ = .slice A9 sn c9 by simp [Act.eval])
              exact Ri.wp_value _ (Ri.run_mv rfl e1) rfl
            · refine Ri.StepY.gq (by kernel_rfl) rfl rfl (by simp) fun S0 f W hS hD hq hf A hA hB hO => ⟨hf 21 (by kernel_rfl), ?_⟩
              obtain ⟨A9x, c9x, e0, hSx⟩ : ∃ A c, f 23 = .slice A sn c ∧ Sl 2 encP W A sn c B := hf 23 (by kernel_rfl)
              have e1 := (hA 316 23 (by kernel_rfl) (by simp)).trans e0
              have e2 := (hA 317 24 (by kernel_rfl) (by simp)).trans (show f 24 = _ from hf 24 (by kernel_rfl))
              refine Ri.wp_call #[.slice A9x sn c9x, .slice A9 sn c9] rfl (by simp [e1, e2]) Tryz.func16 (by kernel_rfl) (by kernel_rfl) ((HSS.out _ _ _ W A9x c9x hq hSx).mono ?_)
              rintro e w3 ⟨rfl, hq3⟩
              exact ⟨_, rfl, hq3, rfl⟩
            · refine Ri.StepY.gq (by kernel_rfl) rfl rfl (by simp) fun S0 f W hS hD hq hf A hA hB hO => ⟨hf 21 (by kernel_rfl), ?_⟩
              have e1 := (hA 318 25 (by kernel_rfl) (by simp)).trans (show f 25 = _ from hf 25 (by kernel_rfl))
              exact Ri.wp_value _ ((Ri.run_not rfl e1).trans (by simp)) rfl
            · refine Ri.StepY.q (by kernel_rfl) rfl fun S0 f W hS hD hq hf A hA hB hO => ?_
              have e1 := (hA 314 21 (by kernel_rfl) (by simp)).trans (show f 21 = _ from hf 21 (by kernel_rfl))
              have e2 := (hA 319 26 (by kernel_rfl) (by simp)).trans (show f 26 = _ from hf 26 (by kernel_rfl))
              exact Ri.wp_value _ (Ri.run_pick rfl e1 (by simpa using e2)) rfl
          · intro S0 f W5 hS hq hf
            have hcc : CC true true true W5 := by have h : CC (S0 1) (S0 5) (S0 18) W5 := hq; rw [hS 1 (by simp), hS 5 (by simp), hS 18 (by simp)] at h; exact h
            have e27 : f 27 = .bool false := hf 27 (by simp) (by kernel_rfl)
            simp only [Ri.acts, Act.put, List.setIfInBounds_toArray, List.set_cons_zero, List.set_cons_succ, Nat.zero_add, Nat.reduceAdd]
            rw [e27]
            have HCE := hide hcc
            clear hf hq hS hcc e27 HC0 HCQ H1 H5 H10 H18 H23 HCM HSI HSS
            cases k6 : (er != 0) with
            | true =>
              go_wp2_with fail
              go_ret
              exact ⟨rfl, HTQ.out _ HCE.out⟩
            | false =>
              go_wp2_with (go_at_call 36; go_loud (refine (HLD.out _ k6 HCE.out).mono ?_); rintro e w9x ⟨rfl, hqx⟩; have HQX := hide hqx; clear hqx)
              go_ret
              exact ⟨rfl, HQX.out⟩
end Go.Proofs.YtdaklffbfadghaaGreat
