/- Two bytes are written; what is behind a part; write, encode, Encode of the cells of known. Conditions: as each theorem says. -/
import Derived.Test.YtbgbalfhbficaaaCelL
import Derived.Test.YtbgbalfhbficaaaRk
import Derived.Test.YtbgbalfhbficaaaCut
namespace Go.Proofs.Ytbgbalfhbficaaa
open Go.RowKit
set_option linter.unusedVariables false
set_option linter.unusedSimpArgs false
theorem grown_of_q {w w' : World} (h : Q w w') (r : Option Nat) : w.grownBy w' r := ⟨h.below.os, h.below.tape, h.below.output, h.below.size, fun i hi _ => h.below.block i hi⟩
theorem grown_cell {w w' : World} {g : Nat} (h : w.grownBy w' (some g)) {b o : Nat} (hb : b < w.heap.size) (hne : b ≠ g) {u : Value} (hc : w.cell? ⟨b, o, none⟩ = some u) : w'.cell? ⟨b, o, none⟩ = some u := by
  have e := h.block b hb (by simpa using hne)
  rw [← hc]
  unfold World.cell?
  simp only [e]
theorem q_grown {w0 w w' : World} {row : Option Nat} (hq : Q w0 w) (hg : w.grownBy w' row) (hr : ∀ k, row = some k → w0.heap.size ≤ k) : Q w0 w' := by
  have hs := hq.size
  exact q_below (B := w0.heap.size) hq ⟨hg.os, hg.tape, hg.output, hg.size, fun i hi => hg.block i (by omega) (fun e => by have := hr i e.symm; omega)⟩ (Nat.le_refl _)
theorem grown_refl (w : World) (row : Option Nat) : w.grownBy w row := ⟨rfl, rfl, rfl, Nat.le_refl _, fun _ _ _ => rfl⟩
theorem grown_set_ {a b : World} {g B e size n c : Nat} {xs : List Value} (h : a.grownBy b (some g)) (ho : b.ownsRow B e size (.slice (some ⟨g, 0, none⟩) n c) n xs) (j : Nat) (u : Value) : a.grownBy (b.setCell ⟨g, j, none⟩ u) (some g) :=
  h.trans (ho.stored j u).2
namespace Ri
theorem run_st1 {P : Program} {o : Oper} {A : Act} {w : World} {ty : TypeId} {x y : Operand} {b off : Nat} {v u : Value} (ho : o.op = .store ty x y) (hx : A.eval x = .pointer (some ⟨b, off, none⟩)) (hy : A.eval y = v) (hsz : (P.info? ty).map (·.size) = some 1) (h1 : v.cells = #[v]) (h2 : v.oneCell' = true) (hc : w.cell? ⟨b, off, none⟩ = some u) (hz : w.frozen? ⟨b, off, none⟩ = false) :
    (execOp A.eval o).run P w = .ok .skip (w.setCell ⟨b, off, none⟩ v) := by
  have hst : (store ⟨b, off, none⟩ v).run P w = .ok () (w.setCell ⟨b, off, none⟩ v) := by
    rw [run_store P w _ v _ h2, hc]
    simp [hz]
  unfold execOp
  obtain ⟨i, hi, hs⟩ := Option.map_eq_some_iff.1 hsz
  simp [ho, hx, hy, Instr.storeAt, Instr.sureAddr, storeVar, h1, storeCells, hst, Sem.run_bind, sizeOf, typeInfo, hi, hs, Addr.add]
end Ri
set_option maxRecDepth 100000 in
set_option maxHeartbeats 1000000 in
theorem low_at (i n : Int) (w : World) : Calls Try.prog 129 #[.agg #[], .int .i64 i, .int .i64 n] w (R1 w (.int .i64 i)) := by
  unfold R1
  go_enter Try.func129, Try.ntmps129
  go_wp2_with fail
  go_ret
  exact ⟨rfl, (Q.refl _).alloc _⟩
set_option maxRecDepth 100000 in
set_option maxHeartbeats 1000000 in
theorem high_at (i : Int) (hi : i = 0 ∨ i = 1) (w : World) : Calls Try.prog 128 #[.agg #[], .int .i64 i, .int .i64 2] w (R1 w (.int .i64 (1 - i))) := by
  unfold R1
  rcases hi with rfl | rfl
  · go_enter Try.func128, Try.ntmps128
    go_wp2_with fail
    go_ret
    exact ⟨rfl, (Q.refl _).alloc _⟩
  · go_enter Try.func128, Try.ntmps128
    go_wp2_with fail
    go_ret
    exact ⟨rfl, (Q.refl _).alloc _⟩
def atB (b : Bool) (i : Int) : Int := if b then 1 - i else i
set_option maxRecDepth 100000 in
set_option maxHeartbeats 1000000 in
theorem at_any (b : Bool) (i : Int) (hi : i = 0 ∨ i = 1) (w : World) : Calls Try.prog 116 #[tgV b, .int .i64 i, .int .i64 2] w (R1 w (.int .i64 (atB b i))) := by
  unfold R1 atB
  obtain ⟨w1, hw1⟩ : ∃ w1, w.alloc (.cells #[.int .i64 4, .bool b] 60) = w1 := ⟨_, rfl⟩
  obtain ⟨hq1, hs1, hd⟩ := box1 hw1
  have t1 := hd 1 _ rfl
  have HH := hide (high_at i hi w1)
  have HL := hide (low_at i 2 w1)
  have HW1 := hide hw1
  have HQ1 := hide hq1
  clear hw1 hd hq1 hi
  cases b with
  | true =>
    go_enter Try.func116, Try.ntmps116
    go_upto_region 1 with fail
    rw [HW1.out]
    go_wp2_with fail
    refine HH.out.mono ?_
    rintro e w2 ⟨rfl, hq2⟩
    go_wp2_with fail
    go_ret
    exact ⟨rfl, HQ1.out.trans hq2⟩
  | false =>
    go_enter Try.func116, Try.ntmps116
    go_upto_region 1 with fail
    rw [HW1.out]
    go_wp2_with fail
    refine HL.out.mono ?_
    rintro e w2 ⟨rfl, hq2⟩
    go_wp2_with fail
    go_ret
    exact ⟨rfl, HQ1.out.trans hq2⟩
/-- the two bytes -/
def by2 (b : Bool) : List Value := if b then [.int .i64 1, .int .i64 2] else [.int .i64 2, .int .i64 1]
def by2k (b : Bool) (k : Nat) : List Value := if k = 0 then [.int .i64 (-1), .int .i64 (-1)] else if k = 1 then (if b then [.int .i64 (-1), .int .i64 2] else [.int .i64 2, .int .i64 (-1)]) else by2 b
set_option maxRecDepth 100000 in
set_option maxHeartbeats 2000000 in
theorem put258 (b : Bool) (g : Nat) (B w : World) (hq : Q B w) (hr : w.ownsRow B.heap.size 3 1 (.slice (some ⟨g, 0, none⟩) 2 2) 2 [.int .i64 (-1), .int .i64 (-1)]) :
    Calls Try.prog 86 #[tgV b, .slice (some ⟨g, 0, none⟩) 2 2, .int .u64 258] w fun e w' => e = .returned (.tuple #[]) ∧ Q B w' ∧ w'.ownsRow B.heap.size 3 1 (.slice (some ⟨g, 0, none⟩) 2 2) 2 (by2 b) := by
  obtain ⟨w1, hw1⟩ : ∃ w1, w.alloc (.cells #[.int .i64 4, .bool b] 60) = w1 := ⟨_, rfl⟩
  obtain ⟨hq1, hs1, hd⟩ := box1 hw1
  obtain ⟨g', c', e', hgb, hgl, -, -, -, -⟩ := own_at hr (by decide)
  cases e'
  have hne : w.heap.size ≠ g := by omega
  have h1 : w.heap.size < w1.heap.size := by omega
  have T0 := hide (hd 0 _ rfl)
  have T1 := hide (hd 1 _ rfl)
  have HW1 := hide hw1
  have HQ1 := hide (hq.trans hq1)
  have HR1 := hide (own_q hr hq1)
  clear hw1 hd hq1 hq hr
  go_enter Try.func86, Try.ntmps86
  go_upto_region 1 with fail
  rw [HW1.out]
  go_wp2_with fail
  go_loopw [9] (fun vi wr => ∃ k : Nat, k ≤ 2 ∧ vi = .int .i64 k ∧ w1.grownBy wr (some g) ∧ wr.ownsRow B.heap.size 3 1 (.slice (some ⟨g, 0, none⟩) 2 2) 2 (by2k b k)) (fun vi _ => 2 - (intOf vi).toNat)
  case atStart => exact ⟨0, by omega, by go_num, grown_refl _ _, HR1.out⟩
  case round =>
    obtain ⟨k, hk, rfl, hg, hown⟩ := hrel
    have t0 := grown_cell hg h1 hne T0.out
    have t1 := grown_cell hg h1 hne T1.out
    obtain ⟨g', c', e', -, hgl', -, -, hcell, hfz⟩ := own_at hown (by decide)
    cases e'
    have HG := hide hg
    have HOW := hide hown
    clear hg hown
    have hs : w.heap.size < wr.heap.size := by have := HG.out.size; omega
    cases b with
    | true =>
      match k, hk with
      | 0, _ =>
        have HC := hide (fun W => show Calls _ _ _ W (R1 W (.int .i64 1)) from at_any true 0 (.inl rfl) W)
        have y0 := hcell 1 _ rfl
        have f0 := hfz 1
        clear hcell hfz
        go_wp2_with fail
        have hxc := ext_cell
        refine Ri.wp_region_cut 13 (fun w1 => ∃ k, w1 = ext _ k) (by kernel_rfl) (by kernel_rfl) rfl rfl (ext_of_q (Q.drew (Q.refl _))) ?_
        simp only [List.take_succ_cons, List.take_zero, List.drop_succ_cons, List.drop_zero]
        repeat (go_big_quiet_step (((go_at_call 116; exact ext_call (HC.out _)))))
        clear hxc
        refine wpQuiet_nil ?_
        intro w4 hww4
        have hqw4 := q_of_ext hww4
        clear hww4
        obtain ⟨hcw4, hfw4, hzw4⟩ := hqw4.facts
        try simp at hzw4
        refine Ri.wp_skipP (Ri.run_st1 (v := .int .i64 2) (u := .int .i64 (-1)) (b := g) (off := 1) rfl (by simp [Act.eval]) (by simp [Act.eval]; kernel_rfl) (by kernel_rfl) rfl rfl ((hqw4.facts.1 _ 1 hgl').trans y0) ((hqw4.facts.2.1 _ 1 hgl').trans f0)) ?_
        refine ⟨fun w1 => ∃ k, w1 = ext _ k, ext_of_q (Q.refl _), ?_⟩
        try simp only [Act.put, List.setIfInBounds_toArray, List.set_cons_succ, List.set_cons_zero]
        have hxc := ext_cell
        repeat (go_big_quiet_step ((fail)))
        clear hxc
        refine wpQuiet_nil ?_
        intro w6 hww6
        have hqw6 := q_of_ext hww6
        clear hww6
        obtain ⟨hcw6, hfw6, hzw6⟩ := hqw6.facts
        try simp at hzw6
        have HQ4 := hide hqw4
        have HQ6 := hide hqw6
        clear hqw4 hqw6 hcw4 hfw4 hcw6 hfw6 y0 f0
        go_wp2_with fail
        go_roundw
        case rel => exact ⟨1, by omega, by go_num, (grown_set_ (HG.out.trans (grown_of_q HQ4.out _)) (own_q HOW.out HQ4.out) 1 _).trans (grown_of_q HQ6.out _), own_q (own_set (own_q HOW.out HQ4.out) 1 (.int .i64 2)) HQ6.out⟩
        case measure => simp [intOf]
      | 1, _ =>
        have HC := hide (fun W => show Calls _ _ _ W (R1 W (.int .i64 0)) from at_any true 1 (.inr rfl) W)
        have y0 := hcell 0 _ rfl
        have f0 := hfz 0
        clear hcell hfz
        go_wp2_with fail
        have hxc := ext_cell
        refine Ri.wp_region_cut 13 (fun w1 => ∃ k, w1 = ext _ k) (by kernel_rfl) (by kernel_rfl) rfl rfl (ext_of_q (Q.drew (Q.refl _))) ?_
        simp only [List.take_succ_cons, List.take_zero, List.drop_succ_cons, List.drop_zero]
        repeat (go_big_quiet_step (((go_at_call 116; exact ext_call (HC.out _)))))
        clear hxc
        refine wpQuiet_nil ?_
        intro w4 hww4
        have hqw4 := q_of_ext hww4
        clear hww4
        obtain ⟨hcw4, hfw4, hzw4⟩ := hqw4.facts
        try simp at hzw4
        refine Ri.wp_skipP (Ri.run_st1 (v := .int .i64 1) (u := .int .i64 (-1)) (b := g) (off := 0) rfl (by simp [Act.eval]) (by simp [Act.eval]; kernel_rfl) (by kernel_rfl) rfl rfl ((hqw4.facts.1 _ 0 hgl').trans y0) ((hqw4.facts.2.1 _ 0 hgl').trans f0)) ?_
        refine ⟨fun w1 => ∃ k, w1 = ext _ k, ext_of_q (Q.refl _), ?_⟩
        try simp only [Act.put, List.setIfInBounds_toArray, List.set_cons_succ, List.set_cons_zero]
        have hxc := ext_cell
        repeat (go_big_quiet_step ((fail)))
        clear hxc
        refine wpQuiet_nil ?_
        intro w6 hww6
        have hqw6 := q_of_ext hww6
        clear hww6
        obtain ⟨hcw6, hfw6, hzw6⟩ := hqw6.facts
        try simp at hzw6
        have HQ4 := hide hqw4
        have HQ6 := hide hqw6
        clear hqw4 hqw6 hcw4 hfw4 hcw6 hfw6 y0 f0
        go_wp2_with fail
        go_roundw
        case rel => exact ⟨2, by omega, by go_num, (grown_set_ (HG.out.trans (grown_of_q HQ4.out _)) (own_q HOW.out HQ4.out) 0 _).trans (grown_of_q HQ6.out _), own_q (own_set (own_q HOW.out HQ4.out) 0 (.int .i64 1)) HQ6.out⟩
        case measure => simp [intOf]
      | 2, _ =>
        clear hcell hfz
        go_wp2_with fail
        exact bodyPost_end (v := .tuple #[]) (by simp [results, Try.results86, go_sem]) rfl ⟨rfl, q_grown HQ1.out HG.out (fun k' e => by cases e; exact hgb), HOW.out⟩
    | false =>
      match k, hk with
      | 0, _ =>
        have HC := hide (fun W => show Calls _ _ _ W (R1 W (.int .i64 0)) from at_any false 0 (.inl rfl) W)
        have y0 := hcell 0 _ rfl
        have f0 := hfz 0
        clear hcell hfz
        go_wp2_with fail
        have hxc := ext_cell
        refine Ri.wp_region_cut 13 (fun w1 => ∃ k, w1 = ext _ k) (by kernel_rfl) (by kernel_rfl) rfl rfl (ext_of_q (Q.drew (Q.refl _))) ?_
        simp only [List.take_succ_cons, List.take_zero, List.drop_succ_cons, List.drop_zero]
        repeat (go_big_quiet_step (((go_at_call 116; exact ext_call (HC.out _)))))
        clear hxc
        refine wpQuiet_nil ?_
        intro w4 hww4
        have hqw4 := q_of_ext hww4
        clear hww4
        obtain ⟨hcw4, hfw4, hzw4⟩ := hqw4.facts
        try simp at hzw4
        refine Ri.wp_skipP (Ri.run_st1 (v := .int .i64 2) (u := .int .i64 (-1)) (b := g) (off := 0) rfl (by simp [Act.eval]) (by simp [Act.eval]; kernel_rfl) (by kernel_rfl) rfl rfl ((hqw4.facts.1 _ 0 hgl').trans y0) ((hqw4.facts.2.1 _ 0 hgl').trans f0)) ?_
        refine ⟨fun w1 => ∃ k, w1 = ext _ k, ext_of_q (Q.refl _), ?_⟩
        try simp only [Act.put, List.setIfInBounds_toArray, List.set_cons_succ, List.set_cons_zero]
        have hxc := ext_cell
        repeat (go_big_quiet_step ((fail)))
        clear hxc
        refine wpQuiet_nil ?_
        intro w6 hww6
        have hqw6 := q_of_ext hww6
        clear hww6
        obtain ⟨hcw6, hfw6, hzw6⟩ := hqw6.facts
        try simp at hzw6
        have HQ4 := hide hqw4
        have HQ6 := hide hqw6
        clear hqw4 hqw6 hcw4 hfw4 hcw6 hfw6 y0 f0
        go_wp2_with fail
        go_roundw
        case rel => exact ⟨1, by omega, by go_num, (grown_set_ (HG.out.trans (grown_of_q HQ4.out _)) (own_q HOW.out HQ4.out) 0 _).trans (grown_of_q HQ6.out _), own_q (own_set (own_q HOW.out HQ4.out) 0 (.int .i64 2)) HQ6.out⟩
        case measure => simp [intOf]
      | 1, _ =>
        have HC := hide (fun W => show Calls _ _ _ W (R1 W (.int .i64 1)) from at_any false 1 (.inr rfl) W)
        have y0 := hcell 1 _ rfl
        have f0 := hfz 1
        clear hcell hfz
        go_wp2_with fail
        have hxc := ext_cell
        refine Ri.wp_region_cut 13 (fun w1 => ∃ k, w1 = ext _ k) (by kernel_rfl) (by kernel_rfl) rfl rfl (ext_of_q (Q.drew (Q.refl _))) ?_
        simp only [List.take_succ_cons, List.take_zero, List.drop_succ_cons, List.drop_zero]
        repeat (go_big_quiet_step (((go_at_call 116; exact ext_call (HC.out _)))))
        clear hxc
        refine wpQuiet_nil ?_
        intro w4 hww4
        have hqw4 := q_of_ext hww4
        clear hww4
        obtain ⟨hcw4, hfw4, hzw4⟩ := hqw4.facts
        try simp at hzw4
        refine Ri.wp_skipP (Ri.run_st1 (v := .int .i64 1) (u := .int .i64 (-1)) (b := g) (off := 1) rfl (by simp [Act.eval]) (by simp [Act.eval]; kernel_rfl) (by kernel_rfl) rfl rfl ((hqw4.facts.1 _ 1 hgl').trans y0) ((hqw4.facts.2.1 _ 1 hgl').trans f0)) ?_
        refine ⟨fun w1 => ∃ k, w1 = ext _ k, ext_of_q (Q.refl _), ?_⟩
        try simp only [Act.put, List.setIfInBounds_toArray, List.set_cons_succ, List.set_cons_zero]
        have hxc := ext_cell
        repeat (go_big_quiet_step ((fail)))
        clear hxc
        refine wpQuiet_nil ?_
        intro w6 hww6
        have hqw6 := q_of_ext hww6
        clear hww6
        obtain ⟨hcw6, hfw6, hzw6⟩ := hqw6.facts
        try simp at hzw6
        have HQ4 := hide hqw4
        have HQ6 := hide hqw6
        clear hqw4 hqw6 hcw4 hfw4 hcw6 hfw6 y0 f0
        go_wp2_with fail
        go_roundw
        case rel => exact ⟨2, by omega, by go_num, (grown_set_ (HG.out.trans (grown_of_q HQ4.out _)) (own_q HOW.out HQ4.out) 1 _).trans (grown_of_q HQ6.out _), own_q (own_set (own_q HOW.out HQ4.out) 1 (.int .i64 1)) HQ6.out⟩
        case measure => simp [intOf]
      | 2, _ =>
        clear hcell hfz
        go_wp2_with fail
        exact bodyPost_end (v := .tuple #[]) (by simp [results, Try.results86, go_sem]) rfl ⟨rfl, q_grown HQ1.out HG.out (fun k' e => by cases e; exact hgb), HOW.out⟩
end Go.Proofs.Ytbgbalfhbficaaa
