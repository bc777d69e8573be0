/- slices.Repeat of one number. Two bytes are written; what is behind a part; write, encode, Encode of the cells of known. write, encode, Encode of the cells of known. encode, Encode of the cells of known; known. Encode of the cells of known; bytes that are equal; known. known. The law CellSames: its walk. Data of a type that holds itself, opened, with the count of its values: readers bounded by the datum's size. Layouts that came in: how they lie; what is said of them. Layouts: their reader; the reference's Layouts, Deep, bitsOf, packed. The reference's Deep, bitsOf, packed, cells. Conditions: as each theorem says. -/
import Derived.Test.YtbgbalfhbficaaaCelSh
import Derived.Test.YtbgbalfhbficaaaCz3
import Derived.Test.YtbgbalfhbficaaaCz2
import Derived.Test.YtbgbalfhbficaaaCz1
import Derived.Test.YtbgbalfhbficaaaRows
namespace Go.Proofs.Ytbgbalfhbficaaa
set_option maxRecDepth 100000
set_option maxHeartbeats 2000000
open Go.RowKit
set_option linter.unusedVariables false
set_option linter.unusedSimpArgs false
theorem blk_lt {w : World} {g : Nat} {o : Obj} (h : w.heap[g]? = some o) : g < w.heap.size := (Array.getElem?_eq_some_iff.1 h).1
theorem El_int : El Try.prog 32 3 1 8 := El.of (z := .int .i64 0) Try.underlying32 (by kernel_rfl) rfl (by decide) (by decide)
theorem own_whole {w : World} {B e : Nat} {g n k : Nat} {xs : List Value} (h : w.ownsRow B e k (.slice (some ⟨g, 0, none⟩) n n) n xs) : w.heap[g]? = some (.cells xs.toArray e (0, 0)) := by
 rcases h.2 with ⟨h1, _⟩ | ⟨g', cap, cur, h1, _, hh, _, _, hs, ht⟩
 ·cases h1
 ·cases h1
  rw [hh]
  congr 2
  rw [← ht, List.take_of_length_le (by rw [Array.length_toList, hs]; exact Nat.le_refl _)]
theorem own_of_whole {w : World} {B e g n k : Nat} {xs : List Value} (h : w.heap[g]? = some (.cells xs.toArray e (0, 0))) (hB : B ≤ g) (hl : xs.length = n * k) (hm : n ≤ maxLen) : w.ownsRow B e k (.slice (some ⟨g, 0, none⟩) n n) n xs :=
 ⟨hl, .inr ⟨g, n, xs.toArray, rfl, hB, h, Nat.le_refl _, hm, by simpa using hl, by rw [← hl]; simp⟩⟩
theorem splice_rep (k m n : Nat) (u z : Value) (h : k + m ≤ n) : splice (List.replicate k u ++ List.replicate (n - k) z) k (List.replicate m u) = List.replicate (k + m) u ++ List.replicate (n - (k + m)) z := by
 unfold splice
 rw [List.length_replicate, List.take_left' (by simp), List.drop_append, List.length_replicate, List.drop_of_length_le (by simp), List.nil_append, List.drop_replicate, ← List.append_assoc, List.replicate_append_replicate]
 congr 2
 omega
theorem rep_src (W : World) (g0 m0 : Nat) (u : Value) (hm : m0 ≤ 1) (h : W.cell? ⟨g0, 0, none⟩ = some u) : ∀ j v, (List.replicate m0 u)[j]? = some v → W.cell? ((⟨g0, 0, none⟩ : Addr).add j) = some v := fun j v hv => by
 have hj := (List.getElem?_eq_some_iff.1 hv).1
 rw [List.length_replicate] at hj
 obtain rfl : j = 0 := by omega
 rw [List.getElem?_replicate, if_pos hj] at hv
 rw [addr_add, ← hv]
 exact h
theorem one_rep (m : Nat) (x : Int) : ∀ v ∈ List.replicate m (Value.int .i64 x), v.oneCell' = true := fun v hv => by
 rw [(List.mem_replicate.1 hv).2]
 simp [Value.oneCell']
def RepPost (n : Nat) (u : Value) (w : World) (e : Ending) (w' : World) : Prop :=
 ∃ g, e = .returned (.slice (some ⟨g, 0, none⟩) n n) ∧ w'.ownsRow w.heap.size 3 1 (.slice (some ⟨g, 0, none⟩) n n) n (List.replicate n u) ∧ Q w w'
theorem repeat_any (n g0 : Nat) (x : Int) (w : World) (hn : n ≤ 100000) (hg0 : g0 < w.heap.size) (hc0 : w.cell? ⟨g0, 0, none⟩ = some (.int .i64 x)) :
  Calls Try.prog 56 #[.slice (some ⟨g0, 0, none⟩) 1 1, .int .i64 (n : Int)] w (RepPost n (.int .i64 x) w) := by
 have hni : (n : Int) ≤ 100000 := by omega
 have HM : Hid (∀ W, Calls Try.prog 85 #[.int .u64 1, .int .u64 (n : Int)] W fun e w' => e = .returned (.tuple #[.int .u64 0, .int .u64 (n : Int)]) ∧ W = w') := fun W => by
  refine (Try.bits_Mul 1 n (by omega) (by omega) W).mono ?_
  rintro e w' ⟨rfl, rfl⟩
  refine ⟨?_, rfl⟩
  rw [Nat.one_mul, Nat.div_eq_of_lt (by omega), Nat.mod_eq_of_lt (by omega)]
  rfl
 have hb1 : decide ((n : Int) < 0) = false := by simp
 have hb2 : decide ((9223372036854775807 : Int) < (n : Int)) = false := by simp; omega
 obtain ⟨m0, hm0⟩ : ∃ m0, m0 = Nat.min 1 n := ⟨_, rfl⟩
 have hm1 : m0 ≤ n := by rw [hm0]; exact Nat.min_le_right _ _
 have hm2 : m0 ≤ 1 := by rw [hm0]; exact Nat.min_le_left _ _
 have hm3 : 0 < n → m0 = 1 := fun h => by rw [hm0]; exact Nat.min_eq_left h
 have HM0 := hide hm0
 have HM3 := hide hm3
 clear hm0 hm3
 go_enter Try.func56, Try.ntmps56
 go_wp2_with (first | (go_at_call 85; refine (HM.out _).mono ?_; rintro e w1 ⟨rfl, rfl⟩) | (at_make; refine wpList_mk rfl _ _ rfl Try.underlying32 (show (Try.prog.info? 3).map (fun i => (i.zero, i.size, i.bytes)) = some (some (.int .i64 0), 1, 8) by kernel_rfl) rfl w.heap.size (n := n) rfl rfl rfl rfl ?_ ?_ ?_ ?_; (focus omega); (focus omega); (focus exact Nat.le_refl _); intro w3 hown3 hq3 hlt3; have HW3 := hide (own_whole hown3); have HQ3 := hide hq3; have hsrc := hide (rep_src w3 g0 m0 _ hm2 ((hq3.facts.1 g0 0 hg0).trans hc0)); clear hown3 hq3) | (with_reducible show wpList _ _ _ _ _ _; (refine wpList_copyk rfl (.tmp 31) (.tmp 32) El_int rfl w.heap.size 0 n n 1 1 m0 _ _ rfl rfl (List.replicate n (Value.int .i64 0)) 3 (List.replicate m0 (Value.int .i64 x)) HW3.out HM0.out (by simp) (fun _ => ⟨rfl, _, rfl, hsrc.out⟩) (by simp; omega) (one_rep _ _) ?_); intro w4 HG4 hgr4 hs4; have HGR4 := hide hgr4; clear hgr4))
 go_loopw [8] (fun vi wr => ∃ k : Nat, k ≤ n ∧ (0 < n → 0 < k) ∧ vi = .int .i64 (k : Int) ∧ Hid (wr.heap[w.heap.size]? = some (.cells (List.replicate k (Value.int .i64 x) ++ List.replicate (n - k) (Value.int .i64 0)).toArray 3 (0, 0))) ∧ Q w wr) (fun vi _ => n - (intOf vi).toNat)
 case atStart =>
  refine ⟨m0, hm1, fun h => by rw [HM3.out h]; exact Nat.zero_lt_one, rfl, ?_, ?_⟩
  ·refine hide ?_
   rw [HG4.out]
   have := splice_rep 0 m0 n (Value.int .i64 x) (Value.int .i64 0) (by omega)
   simp only [List.replicate_zero, List.nil_append, Nat.sub_zero, Nat.zero_add] at this
   rw [this]
  ·exact q_below (B := w.heap.size) HQ3.out ⟨HGR4.out.os, HGR4.out.tape, HGR4.out.output, HGR4.out.size, fun i hi => HGR4.out.block i (by omega) (fun e => by cases e; omega)⟩ (Nat.le_refl _)
 case round =>
  obtain ⟨k, hk, hk0, rfl, HG, hq⟩ := hrel
  have hsz := hq.size
  have hgl := blk_lt HG.out
  have HQ := hide hq
  clear hq
  by_cases hlt : k < n
  ·have hd1 : decide ((k : Int) < (n : Int)) = true := by simp; omega
   have hd0 : decide (k < n) = true := by simp; omega
   have hlti : (k : Int) < (n : Int) := by omega
   have hk1 : 0 < k := hk0 (by omega)
   have hkn : ¬ n = k := by omega
   obtain ⟨m, hm⟩ : ∃ m, m = Nat.min k (n - k) := ⟨_, rfl⟩
   have hm1' : m ≤ k := by rw [hm]; exact Nat.min_le_left _ _
   have hm2' : m ≤ n - k := by rw [hm]; exact Nat.min_le_right _ _
   have hm0 : 0 < m := by rw [hm]; exact Nat.lt_min.2 ⟨hk1, by omega⟩
   have HM := hide hm
   clear hm
   have HS : Hid (∀ W : World, W.heap[w.heap.size]? = some (.cells (List.replicate k (Value.int .i64 x) ++ List.replicate (n - k) (Value.int .i64 0)).toArray 3 (0, 0)) → ∀ j v, (List.replicate m (Value.int .i64 x))[j]? = some v → W.cell? ((⟨w.heap.size, 0, none⟩ : Addr).add j) = some v) := fun W hW j v hv => by
    have hj := (List.getElem?_eq_some_iff.1 hv).1
    rw [List.length_replicate] at hj
    rw [List.getElem?_replicate, if_pos hj] at hv
    rw [addr_add, cell_of_row _ _ _ _ _ _ hW, Nat.zero_add, ← hv]
    simp
    rw [List.getElem?_append_left (by simp; omega), List.getElem?_replicate, if_pos (by omega)]
   have hki : (k : Int) ≤ 100000 := by omega
   have hmi : (m : Int) ≤ 100000 := by omega
   have hsum : IntKind.i64.wrap ((k : Int) + (m : Int)) = (k : Int) + (m : Int) := by rw [IntKind.wrap_i64]; omega
   go_wp2_with fail
   go_region_law (refine step_copyk rfl (.tmp 41) (.tmp 44) El_int rfl w.heap.size k (n - k) (n - k) k n m (some ⟨w.heap.size, k, none⟩) (some ⟨w.heap.size, 0, none⟩) (by simp [Act.eval, Act.put]) (by simp [Act.eval, Act.put]) _ 3 (List.replicate m (Value.int .i64 x)) HG.out HM.out (by simp) (fun _ => ⟨rfl, _, rfl, HS.out _ HG.out⟩) (by simp; omega) (one_rep _ _) ?_; intro w6 HG6 hgr6 hs6; have HGR6 := hide hgr6; clear hgr6)
   go_simp
   go_roundw
   case rel =>
    refine ⟨_, _, _, _, _, _, _, _, _, _, _, _, _, _, ?_, rfl⟩
    refine ⟨k + m, by omega, fun _ => by omega, by go_num, ?_, ?_⟩
    ·refine hide ?_
     rw [HG6.out, splice_rep k m n _ _ (by omega)]
    ·exact q_below (B := w.heap.size) HQ.out ⟨HGR6.out.os, HGR6.out.tape, HGR6.out.output, HGR6.out.size, fun i hi => HGR6.out.block i (by have := HQ.out.size; simp; omega) (fun e => by cases e; omega)⟩ (Nat.le_refl _)
   case measure => simp [intOf] <;> omega
  ·have hd1 : decide ((k : Int) < (n : Int)) = false := by simp; omega
   have hd0 : decide (k < n) = false := by simp; omega
   obtain rfl : k = n := by omega
   go_wp2_with fail
   go_ret
   refine ⟨w.heap.size, rfl, ?_, HQ.out⟩
   have := HG.out
   simp only [Nat.sub_self, List.replicate_zero, List.append_nil] at this
   exact own_of_whole this (Nat.le_refl _) (by simp) (by unfold maxLen; omega)
theorem grown_of_q {w w' : World} (h : Q w w') (r : Option Nat) : w.grownBy w' r := ⟨h.below.os, h.below.tape, h.below.output, h.below.size, fun i hi _ => h.below.block i hi⟩
theorem grown_cell {w w' : World} {g : Nat} (h : w.grownBy w' (some g)) {b o : Nat} (hb : b < w.heap.size) (hne : b ≠ g) {u : Value} (hc : w.cell? ⟨b, o, none⟩ = some u) : w'.cell? ⟨b, o, none⟩ = some u := by
 have e := h.block b hb (by simpa using hne)
 rw [← hc]
 unfold World.cell?
 simp only [e]
theorem q_grown {w0 w w' : World} {row : Option Nat} (hq : Q w0 w) (hg : w.grownBy w' row) (hr : ∀ k, row = some k → w0.heap.size ≤ k) : Q w0 w' := by
 have hs := hq.size
 exact q_below (B := w0.heap.size) hq ⟨hg.os, hg.tape, hg.output, hg.size, fun i hi => hg.block i (by omega) (fun e => by have := hr i e.symm; omega)⟩ (Nat.le_refl _)
theorem grown_refl (w : World) (row : Option Nat) : w.grownBy w row := ⟨rfl, rfl, rfl, Nat.le_refl _, fun _ _ _ => rfl⟩
theorem grown_set_ {a b : World} {g B e size n c : Nat} {xs : List Value} (h : a.grownBy b (some g)) (ho : b.ownsRow B e size (.slice (some ⟨g, 0, none⟩) n c) n xs) (j : Nat) (u : Value) : a.grownBy (b.setCell ⟨g, j, none⟩ u) (some g) :=
 h.trans (ho.stored j u).2
namespace Ri
theorem run_st1 {P : Program} {o : Oper} {A : Act} {w : World} {ty : TypeId} {x y : Operand} {b off : Nat} {v u : Value} (ho : o.op = .store ty x y) (hx : A.eval x = .pointer (some ⟨b, off, none⟩)) (hy : A.eval y = v) (hsz : (P.info? ty).map (·.size) = some 1) (h1 : v.cells = #[v]) (h2 : v.oneCell' = true) (hc : w.cell? ⟨b, off, none⟩ = some u) (hz : w.frozen? ⟨b, off, none⟩ = false) :
  (execOp A.eval o).run P w = .ok .skip (w.setCell ⟨b, off, none⟩ v) := by
 have hst : (store ⟨b, off, none⟩ v).run P w = .ok () (w.setCell ⟨b, off, none⟩ v) := by
  rw [run_store P w _ v _ h2, hc]
  simp [hz]
 unfold execOp
 obtain ⟨i, hi, hs⟩ := Option.map_eq_some_iff.1 hsz
 simp [ho, hx, hy, Instr.storeAt, Instr.sureAddr, storeVar, h1, storeCells, hst, Sem.run_bind, sizeOf, typeInfo, hi, hs, Addr.add]
end Ri
theorem low_at (i n : Int) (w : World) : Calls Try.prog 129 #[.agg #[], .int .i64 i, .int .i64 n] w (R1 w (.int .i64 i)) := by
 unfold R1
 go_enter Try.func129, Try.ntmps129
 go_wp2_with fail
 go_ret
 exact ⟨rfl, (Q.refl _).alloc _⟩
theorem high_at (i : Int) (hi : i = 0 ∨ i = 1) (w : World) : Calls Try.prog 128 #[.agg #[], .int .i64 i, .int .i64 2] w (R1 w (.int .i64 (1 - i))) := by
 unfold R1
 rcases hi with rfl | rfl
 ·go_enter Try.func128, Try.ntmps128
  go_wp2_with fail
  go_ret
  exact ⟨rfl, (Q.refl _).alloc _⟩
 ·go_enter Try.func128, Try.ntmps128
  go_wp2_with fail
  go_ret
  exact ⟨rfl, (Q.refl _).alloc _⟩
def atB (b : Bool) (i : Int) : Int := if b then 1 - i else i
theorem at_any (b : Bool) (i : Int) (hi : i = 0 ∨ i = 1) (w : World) : Calls Try.prog 116 #[tgV b, .int .i64 i, .int .i64 2] w (R1 w (.int .i64 (atB b i))) := by
 unfold R1 atB
 obtain ⟨w1, hw1⟩ : ∃ w1, w.alloc (.cells #[.int .i64 4, .bool b] 60) = w1 := ⟨_, rfl⟩
 obtain ⟨hq1, hs1, hd⟩ := box1 hw1
 have t1 := hd 1 _ rfl
 have HH := hide (high_at i hi w1)
 have HL := hide (low_at i 2 w1)
 have HW1 := hide hw1
 have HQ1 := hide hq1
 clear hw1 hd hq1 hi
 cases b with
 | true =>
  go_enter Try.func116, Try.ntmps116
  go_upto_region 1 with fail
  rw [HW1.out]
  go_wp2_with fail
  refine HH.out.mono ?_
  rintro e w2 ⟨rfl, hq2⟩
  go_wp2_with fail
  go_ret
  exact ⟨rfl, HQ1.out.trans hq2⟩
 | false =>
  go_enter Try.func116, Try.ntmps116
  go_upto_region 1 with fail
  rw [HW1.out]
  go_wp2_with fail
  refine HL.out.mono ?_
  rintro e w2 ⟨rfl, hq2⟩
  go_wp2_with fail
  go_ret
  exact ⟨rfl, HQ1.out.trans hq2⟩
def by2 (b : Bool) : List Value := if b then [.int .i64 1, .int .i64 2] else [.int .i64 2, .int .i64 1]
def by2k (b : Bool) (k : Nat) : List Value := if k = 0 then [.int .i64 (-1), .int .i64 (-1)] else if k = 1 then (if b then [.int .i64 (-1), .int .i64 2] else [.int .i64 2, .int .i64 (-1)]) else by2 b
theorem put258 (b : Bool) (g : Nat) (B w : World) (hq : Q B w) (hr : w.ownsRow B.heap.size 3 1 (.slice (some ⟨g, 0, none⟩) 2 2) 2 [.int .i64 (-1), .int .i64 (-1)]) :
  Calls Try.prog 86 #[tgV b, .slice (some ⟨g, 0, none⟩) 2 2, .int .u64 258] w fun e w' => e = .returned (.tuple #[]) ∧ Q B w' ∧ w'.ownsRow B.heap.size 3 1 (.slice (some ⟨g, 0, none⟩) 2 2) 2 (by2 b) := by
 obtain ⟨w1, hw1⟩ : ∃ w1, w.alloc (.cells #[.int .i64 4, .bool b] 60) = w1 := ⟨_, rfl⟩
 obtain ⟨hq1, hs1, hd⟩ := box1 hw1
 obtain ⟨g', c', e', hgb, hgl, -, -, -, -⟩ := own_at hr (by decide)
 cases e'
 have hne : w.heap.size ≠ g := by omega
 have h1 : w.heap.size < w1.heap.size := by omega
 have T0 := hide (hd 0 _ rfl)
 have T1 := hide (hd 1 _ rfl)
 have HW1 := hide hw1
 have HQ1 := hide (hq.trans hq1)
 have HR1 := hide (own_q hr hq1)
 clear hw1 hd hq1 hq hr
 go_enter Try.func86, Try.ntmps86
 go_upto_region 1 with fail
 rw [HW1.out]
 go_wp2_with fail
 go_loopw [9] (fun vi wr => ∃ k : Nat, k ≤ 2 ∧ vi = .int .i64 k ∧ w1.grownBy wr (some g) ∧ wr.ownsRow B.heap.size 3 1 (.slice (some ⟨g, 0, none⟩) 2 2) 2 (by2k b k)) (fun vi _ => 2 - (intOf vi).toNat)
 case atStart => exact ⟨0, by omega, by go_num, grown_refl _ _, HR1.out⟩
 case round =>
  obtain ⟨k, hk, rfl, hg, hown⟩ := hrel
  have t0 := grown_cell hg h1 hne T0.out
  have t1 := grown_cell hg h1 hne T1.out
  obtain ⟨g', c', e', -, hgl', -, -, hcell, hfz⟩ := own_at hown (by decide)
  cases e'
  have HG := hide hg
  have HOW := hide hown
  clear hg hown
  have hs : w.heap.size < wr.heap.size := by have := HG.out.size; omega
  cases b with
  | true =>
   match k, hk with
   | 0, _ =>
    have HC := hide (fun W => show Calls _ _ _ W (R1 W (.int .i64 1)) from at_any true 0 (.inl rfl) W)
    have y0 := hcell 1 _ rfl
    have f0 := hfz 1
    clear hcell hfz
    go_wp2_with fail
    have hxc := ext_cell
    refine Ri.wp_region_cut 13 (fun w1 => ∃ k, w1 = ext _ k) (by kernel_rfl) (by kernel_rfl) rfl rfl (ext_of_q (Q.drew (Q.refl _))) ?_
    simp only [List.take_succ_cons, List.take_zero, List.drop_succ_cons, List.drop_zero]
    repeat (go_big_quiet_step (((go_at_call 116; exact ext_call (HC.out _)))))
    clear hxc
    refine wpQuiet_nil ?_
    intro w4 hww4
    have hqw4 := q_of_ext hww4
    clear hww4
    obtain ⟨hcw4, hfw4, hzw4⟩ := hqw4.facts
    try simp at hzw4
    refine Ri.wp_skipP (Ri.run_st1 (v := .int .i64 2) (u := .int .i64 (-1)) (b := g) (off := 1) rfl (by simp [Act.eval]) (by simp [Act.eval]; kernel_rfl) (by kernel_rfl) rfl rfl ((hqw4.facts.1 _ 1 hgl').trans y0) ((hqw4.facts.2.1 _ 1 hgl').trans f0)) ?_
    refine ⟨fun w1 => ∃ k, w1 = ext _ k, ext_of_q (Q.refl _), ?_⟩
    try simp only [Act.put, List.setIfInBounds_toArray, List.set_cons_succ, List.set_cons_zero]
    have hxc := ext_cell
    repeat (go_big_quiet_step ((fail)))
    clear hxc
    refine wpQuiet_nil ?_
    intro w6 hww6
    have hqw6 := q_of_ext hww6
    clear hww6
    obtain ⟨hcw6, hfw6, hzw6⟩ := hqw6.facts
    try simp at hzw6
    have HQ4 := hide hqw4
    have HQ6 := hide hqw6
    clear hqw4 hqw6 hcw4 hfw4 hcw6 hfw6 y0 f0
    go_wp2_with fail
    go_roundw
    case rel => exact ⟨1, by omega, by go_num, (grown_set_ (HG.out.trans (grown_of_q HQ4.out _)) (own_q HOW.out HQ4.out) 1 _).trans (grown_of_q HQ6.out _), own_q (own_set (own_q HOW.out HQ4.out) 1 (.int .i64 2)) HQ6.out⟩
    case measure => simp [intOf]
   | 1, _ =>
    have HC := hide (fun W => show Calls _ _ _ W (R1 W (.int .i64 0)) from at_any true 1 (.inr rfl) W)
    have y0 := hcell 0 _ rfl
    have f0 := hfz 0
    clear hcell hfz
    go_wp2_with fail
    have hxc := ext_cell
    refine Ri.wp_region_cut 13 (fun w1 => ∃ k, w1 = ext _ k) (by kernel_rfl) (by kernel_rfl) rfl rfl (ext_of_q (Q.drew (Q.refl _))) ?_
    simp only [List.take_succ_cons, List.take_zero, List.drop_succ_cons, List.drop_zero]
    repeat (go_big_quiet_step (((go_at_call 116; exact ext_call (HC.out _)))))
    clear hxc
    refine wpQuiet_nil ?_
    intro w4 hww4
    have hqw4 := q_of_ext hww4
    clear hww4
    obtain ⟨hcw4, hfw4, hzw4⟩ := hqw4.facts
    try simp at hzw4
    refine Ri.wp_skipP (Ri.run_st1 (v := .int .i64 1) (u := .int .i64 (-1)) (b := g) (off := 0) rfl (by simp [Act.eval]) (by simp [Act.eval]; kernel_rfl) (by kernel_rfl) rfl rfl ((hqw4.facts.1 _ 0 hgl').trans y0) ((hqw4.facts.2.1 _ 0 hgl').trans f0)) ?_
    refine ⟨fun w1 => ∃ k, w1 = ext _ k, ext_of_q (Q.refl _), ?_⟩
    try simp only [Act.put, List.setIfInBounds_toArray, List.set_cons_succ, List.set_cons_zero]
    have hxc := ext_cell
    repeat (go_big_quiet_step ((fail)))
    clear hxc
    refine wpQuiet_nil ?_
    intro w6 hww6
    have hqw6 := q_of_ext hww6
    clear hww6
    obtain ⟨hcw6, hfw6, hzw6⟩ := hqw6.facts
    try simp at hzw6
    have HQ4 := hide hqw4
    have HQ6 := hide hqw6
    clear hqw4 hqw6 hcw4 hfw4 hcw6 hfw6 y0 f0
    go_wp2_with fail
    go_roundw
    case rel => exact ⟨2, by omega, by go_num, (grown_set_ (HG.out.trans (grown_of_q HQ4.out _)) (own_q HOW.out HQ4.out) 0 _).trans (grown_of_q HQ6.out _), own_q (own_set (own_q HOW.out HQ4.out) 0 (.int .i64 1)) HQ6.out⟩
    case measure => simp [intOf]
   | 2, _ =>
    clear hcell hfz
    go_wp2_with fail
    exact bodyPost_end (v := .tuple #[]) (by simp [results, Try.results86, go_sem]) rfl ⟨rfl, q_grown HQ1.out HG.out (fun k' e => by cases e; exact hgb), HOW.out⟩
  | false =>
   match k, hk with
   | 0, _ =>
    have HC := hide (fun W => show Calls _ _ _ W (R1 W (.int .i64 0)) from at_any false 0 (.inl rfl) W)
    have y0 := hcell 0 _ rfl
    have f0 := hfz 0
    clear hcell hfz
    go_wp2_with fail
    have hxc := ext_cell
    refine Ri.wp_region_cut 13 (fun w1 => ∃ k, w1 = ext _ k) (by kernel_rfl) (by kernel_rfl) rfl rfl (ext_of_q (Q.drew (Q.refl _))) ?_
    simp only [List.take_succ_cons, List.take_zero, List.drop_succ_cons, List.drop_zero]
    repeat (go_big_quiet_step (((go_at_call 116; exact ext_call (HC.out _)))))
    clear hxc
    refine wpQuiet_nil ?_
    intro w4 hww4
    have hqw4 := q_of_ext hww4
    clear hww4
    obtain ⟨hcw4, hfw4, hzw4⟩ := hqw4.facts
    try simp at hzw4
    refine Ri.wp_skipP (Ri.run_st1 (v := .int .i64 2) (u := .int .i64 (-1)) (b := g) (off := 0) rfl (by simp [Act.eval]) (by simp [Act.eval]; kernel_rfl) (by kernel_rfl) rfl rfl ((hqw4.facts.1 _ 0 hgl').trans y0) ((hqw4.facts.2.1 _ 0 hgl').trans f0)) ?_
    refine ⟨fun w1 => ∃ k, w1 = ext _ k, ext_of_q (Q.refl _), ?_⟩
    try simp only [Act.put, List.setIfInBounds_toArray, List.set_cons_succ, List.set_cons_zero]
    have hxc := ext_cell
    repeat (go_big_quiet_step ((fail)))
    clear hxc
    refine wpQuiet_nil ?_
    intro w6 hww6
    have hqw6 := q_of_ext hww6
    clear hww6
    obtain ⟨hcw6, hfw6, hzw6⟩ := hqw6.facts
    try simp at hzw6
    have HQ4 := hide hqw4
    have HQ6 := hide hqw6
    clear hqw4 hqw6 hcw4 hfw4 hcw6 hfw6 y0 f0
    go_wp2_with fail
    go_roundw
    case rel => exact ⟨1, by omega, by go_num, (grown_set_ (HG.out.trans (grown_of_q HQ4.out _)) (own_q HOW.out HQ4.out) 0 _).trans (grown_of_q HQ6.out _), own_q (own_set (own_q HOW.out HQ4.out) 0 (.int .i64 2)) HQ6.out⟩
    case measure => simp [intOf]
   | 1, _ =>
    have HC := hide (fun W => show Calls _ _ _ W (R1 W (.int .i64 1)) from at_any false 1 (.inr rfl) W)
    have y0 := hcell 1 _ rfl
    have f0 := hfz 1
    clear hcell hfz
    go_wp2_with fail
    have hxc := ext_cell
    refine Ri.wp_region_cut 13 (fun w1 => ∃ k, w1 = ext _ k) (by kernel_rfl) (by kernel_rfl) rfl rfl (ext_of_q (Q.drew (Q.refl _))) ?_
    simp only [List.take_succ_cons, List.take_zero, List.drop_succ_cons, List.drop_zero]
    repeat (go_big_quiet_step (((go_at_call 116; exact ext_call (HC.out _)))))
    clear hxc
    refine wpQuiet_nil ?_
    intro w4 hww4
    have hqw4 := q_of_ext hww4
    clear hww4
    obtain ⟨hcw4, hfw4, hzw4⟩ := hqw4.facts
    try simp at hzw4
    refine Ri.wp_skipP (Ri.run_st1 (v := .int .i64 1) (u := .int .i64 (-1)) (b := g) (off := 1) rfl (by simp [Act.eval]) (by simp [Act.eval]; kernel_rfl) (by kernel_rfl) rfl rfl ((hqw4.facts.1 _ 1 hgl').trans y0) ((hqw4.facts.2.1 _ 1 hgl').trans f0)) ?_
    refine ⟨fun w1 => ∃ k, w1 = ext _ k, ext_of_q (Q.refl _), ?_⟩
    try simp only [Act.put, List.setIfInBounds_toArray, List.set_cons_succ, List.set_cons_zero]
    have hxc := ext_cell
    repeat (go_big_quiet_step ((fail)))
    clear hxc
    refine wpQuiet_nil ?_
    intro w6 hww6
    have hqw6 := q_of_ext hww6
    clear hww6
    obtain ⟨hcw6, hfw6, hzw6⟩ := hqw6.facts
    try simp at hzw6
    have HQ4 := hide hqw4
    have HQ6 := hide hqw6
    clear hqw4 hqw6 hcw4 hfw4 hcw6 hfw6 y0 f0
    go_wp2_with fail
    go_roundw
    case rel => exact ⟨2, by omega, by go_num, (grown_set_ (HG.out.trans (grown_of_q HQ4.out _)) (own_q HOW.out HQ4.out) 1 _).trans (grown_of_q HQ6.out _), own_q (own_set (own_q HOW.out HQ4.out) 1 (.int .i64 1)) HQ6.out⟩
    case measure => simp [intOf]
   | 2, _ =>
    clear hcell hfz
    go_wp2_with fail
    exact bodyPost_end (v := .tuple #[]) (by simp [results, Try.results86, go_sem]) rfl ⟨rfl, q_grown HQ1.out HG.out (fun k' e => by cases e; exact hgb), HOW.out⟩
theorem behind_opt (g : Nat) (b : Bool) (w : World) (h8 : Op8 w g) : Calls Try.prog 68 #[tgV b, opV g] w (R1 w (.int .i64 1)) := by
 unfold R1
 obtain ⟨w2, hw2⟩ : ∃ w2, (w.alloc (.cells #[.int .i64 4, .bool b] 60)).alloc (.cells #[.int .i64 4, .int .i64 0, .bool false, .slice (some ⟨g, 0, none⟩) 1 1] 24) = w2 := ⟨_, rfl⟩
 obtain ⟨hq2, hs2, hd, hc⟩ := box2 hw2
 have h0 : w.heap.size < w2.heap.size := by omega
 have k3 := hc 3 _ rfl
 have T0 := hide (hd 0 _ rfl)
 have T1 := hide (hd 1 _ rfl)
 have HW2 := hide hw2
 have HQ2 := hide hq2
 have H8 := hide (h8.up hq2)
 clear hw2 hc hd hq2 h8
 go_enter Try.func68, Try.ntmps68
 go_upto_region 1 with fail
 rw [HW2.out]
 go_wp2_with fail
 clear k3
 go_loopw [5, 11] (fun v5 vi wr => ∃ k : Nat, k ≤ 1 ∧ vi = .int .i64 k ∧ v5 = .int .i64 (if k = 0 then 0 else 1) ∧ Q w2 wr) (fun _ vi _ => 1 - (intOf vi).toNat)
 case atStart => exact ⟨0, by omega, by go_num, rfl, Q.refl _⟩
 case round =>
  obtain ⟨k, hk, rfl, rfl, hq⟩ := hrel
  have HQ := hide hq
  match k, hk with
  | 0, _ =>
   obtain ⟨hl, c0, c1, c2, c3⟩ := H8.out.up hq
   obtain ⟨wa, hwa⟩ : ∃ wa, wr.alloc (.cells #[.int .i64 2, .int .i64 8, .bool false, .slice none 0 0] 24) = wa := ⟨_, rfl⟩
   obtain ⟨hqa, hsa, hc⟩ := box1 hwa
   have z0 := hc 0 _ rfl
   have z1 := hc 1 _ rfl
   have z2 := hc 2 _ rfl
   have z3 := hc 3 _ rfl
   have t0 := ((hq.trans hqa).facts.1 _ 0 h0).trans T0.out
   have t1 := ((hq.trans hqa).facts.1 _ 1 h0).trans T1.out
   have HC := hide (size_ly (w := wa) (v := lfV 8) (s := 1) (al := 1) (.leaf (.inl ⟨rfl, rfl⟩)) b)
   have HWA := hide hwa
   have HQA := hide (hq.trans hqa)
   clear hq hwa hc hqa
   go_upto_region 5 with fail
   rw [HWA.out]
   clear c0 c1 c2 c3
   go_wp2_with fail
   refine HC.out.mono ?_
   rintro e w5 ⟨rfl, hq5⟩
   have HQ5 := hide (HQA.out.trans hq5)
   clear hq5 z0 z1 z2 z3 t0 t1
   go_wp2_with fail
   go_roundw
   case rel => exact ⟨1, by omega, by go_num, rfl, HQ5.out⟩
   case measure => simp [intOf]
  | 1, _ =>
   clear hq
   go_wp2_with fail
   go_ret
   exact ⟨rfl, HQ2.out.trans HQ.out⟩
def WrP (B : World) (g : Nat) (L : List Value) (e : Ending) (w' : World) : Prop := e = .returned (.tuple #[]) ∧ Q B w' ∧ w'.ownsRow B.heap.size 3 1 (.slice (some ⟨g, 0, none⟩) 2 2) 2 L
theorem write_leaf (b : Bool) (g : Nat) (B w : World) (hq : Q B w) (hr : w.ownsRow B.heap.size 3 1 (.slice (some ⟨g, 0, none⟩) 2 2) 2 [.int .i64 (-1), .int .i64 (-1)]) :
  Calls Try.prog 57 #[tgV b, lfV 16, .slice (some ⟨g, 0, none⟩) 2 2, c258] w (WrP B g (by2 b)) := by
 unfold WrP
 obtain ⟨w3, hw3⟩ : ∃ w3, ((w.alloc (.cells #[.int .i64 4, .bool b] 60)).alloc (.cells #[.int .i64 2, .int .i64 16, .bool false, .slice none 0 0] 24)).alloc (.cells #[.int .i64 258, .bool false, .bool false, .slice none 0 0] 31) = w3 := ⟨_, rfl⟩
 obtain ⟨hq3, hs3, hd, hc, he⟩ := box3 hw3
 have k0 := hc 0 _ rfl
 have t0 := hd 0 _ rfl
 have t1 := hd 1 _ rfl
 have x0 := he 0 _ rfl
 have x2 := he 2 _ rfl
 have HP := hide (put258 b g B w3 (hq.trans hq3) (own_q hr hq3))
 have HW3 := hide hw3
 clear hw3 hc hd he hq3 hq hr
 go_enter Try.func57, Try.ntmps57
 go_upto_region 1 with fail
 rw [HW3.out]
 go_wp2_with fail
 refine HP.out.mono ?_
 rintro e w4 ⟨rfl, hq4, hr4⟩
 have HR4 := hide hr4
 clear k0 t0 t1 x0 x2 hr4
 go_wp2_with fail
 exact bodyPost_end (v := .tuple #[]) (by simp [results, Try.results57, go_sem]) rfl ⟨rfl, hq4, HR4.out⟩
theorem write_opt (b : Bool) (g hh : Nat) (B w : World) (hq : Q B w) (h8 : Op8 w hh) (hr : w.ownsRow B.heap.size 3 1 (.slice (some ⟨g, 0, none⟩) 2 2) 2 [.int .i64 (-1), .int .i64 (-1)]) :
  Calls Try.prog 57 #[tgV b, opV hh, .slice (some ⟨g, 0, none⟩) 2 2, cNul] w (WrP B g [.int .i64 (-1), .int .i64 0]) := by
 unfold WrP
 obtain ⟨w3, hw3⟩ : ∃ w3, ((w.alloc (.cells #[.int .i64 4, .bool b] 60)).alloc (.cells #[.int .i64 4, .int .i64 0, .bool false, .slice (some ⟨hh, 0, none⟩) 1 1] 24)).alloc (.cells #[.int .i64 0, .bool true, .bool false, .slice none 0 0] 31) = w3 := ⟨_, rfl⟩
 obtain ⟨hq3, hs3, hd, hc, he⟩ := box3 hw3
 have h2 : w.heap.size + 2 < w3.heap.size := by omega
 have k0 := hc 0 _ rfl
 have k1 := hc 1 _ rfl
 have k2 := hc 2 _ rfl
 have k3 := hc 3 _ rfl
 have t0 := hd 0 _ rfl
 have t1 := hd 1 _ rfl
 have X1 := hide (he 1 _ rfl)
 have x2 := he 2 _ rfl
 have HBH := hide (behind_opt hh b w3 (h8.up hq3))
 obtain ⟨g', c', e', hgb, hgl, -, -, -, -⟩ := own_at hr (by decide)
 cases e'
 have hne : w.heap.size + 2 ≠ g := by omega
 have HR3 := hide (own_q hr hq3)
 have HQ3 := hide (hq.trans hq3)
 have HW3 := hide hw3
 clear hw3 hc hd he hq3 hq hr
 go_enter Try.func57, Try.ntmps57
 go_upto_region 1 with fail
 rw [HW3.out]
 go_wp2_with fail
 refine HBH.out.mono ?_
 rintro e w4 ⟨rfl, hq4⟩
 have hown := own_q HR3.out hq4
 obtain ⟨g', c', e', -, hgl', -, -, hcell, hfz⟩ := own_at hown (by decide)
 cases e'
 have y1 := hcell 1 _ rfl
 have f1 := hfz 1
 have x1 := (hq4.facts.1 _ 1 h2).trans X1.out
 obtain ⟨w5, hw5⟩ : ∃ w5, w4.setCell ⟨g, 1, none⟩ (.int .i64 0) = w5 := ⟨_, rfl⟩
 have x1' : w5.cell? ⟨w.heap.size + 2, 1, none⟩ = some (.bool true) := by
  rw [← hw5, World.cell?_setCell_other _ _ _ _ (by intro e; simp at e <;> omega)]
  exact x1
 have HR5 := hide (show w5.ownsRow B.heap.size 3 1 (.slice (some ⟨g, 0, none⟩) 2 2) 2 [.int .i64 (-1), .int .i64 0] by rw [← hw5]; exact own_set hown 1 _)
 have HQ5 := hide (show Q B w5 by rw [← hw5]; exact (HQ3.out.trans hq4).set hgb _)
 have HW5 := hide hw5
 clear k0 k1 k2 k3 t0 t1 x2 hown hcell hfz hq4 x1 hw5
 go_upto_region 10 with fail
 rw [HW5.out]
 clear y1 f1
 go_wp2_with fail
 exact bodyPost_end (v := .tuple #[]) (by simp [results, Try.results57, go_sem]) rfl ⟨rfl, HQ5.out, HR5.out⟩
theorem encode_of {w : World} {v x : Value} {L : List Value} {b : Bool} (hck : Ck w v x) (hwr : ∀ (g : Nat) (W : World), Q w W → W.ownsRow w.heap.size 3 1 (.slice (some ⟨g, 0, none⟩) 2 2) 2 [.int .i64 (-1), .int .i64 (-1)] → Calls Try.prog 57 #[tgV b, v, .slice (some ⟨g, 0, none⟩) 2 2, x] W (WrP w g L)) :
  Calls Try.prog 30 #[tgV b, v, x] w fun e w' => ∃ g, e = .returned (.slice (some ⟨g, 0, none⟩) 2 2) ∧ Q w w' ∧ w'.ownsRow w.heap.size 3 1 (.slice (some ⟨g, 0, none⟩) 2 2) 2 L := by
 have HCK := hide hck
 have HWR := hide hwr
 obtain ⟨⟨k, n, A, m, rfl⟩, N, z, rfl⟩ := hck.cells
 obtain ⟨al, hly⟩ := hck.ly
 obtain ⟨w3, hw3⟩ : ∃ w3, ((w.alloc (.cells #[.int .i64 4, .bool b] 60)).alloc (.cells #[.int .i64 k, .int .i64 n, .bool false, .slice A m m] 24)).alloc (.cells #[.int .i64 N, .bool z, .bool false, .slice none 0 0] 31) = w3 := ⟨_, rfl⟩
 obtain ⟨hq3, hs3, hd, hc, he⟩ := box3 hw3
 have h0 : w.heap.size < w3.heap.size := by omega
 have h1 : w.heap.size + 1 < w3.heap.size := by omega
 have h2 : w.heap.size + 2 < w3.heap.size := by omega
 have k0 := hc 0 _ rfl
 have k1 := hc 1 _ rfl
 have k2 := hc 2 _ rfl
 have k3 := hc 3 _ rfl
 have t0 := hd 0 _ rfl
 have t1 := hd 1 _ rfl
 have x0 := he 0 _ rfl
 have x1 := he 1 _ rfl
 have x2 := he 2 _ rfl
 have x3 := he 3 _ rfl
 have KA : Hid (∀ W, Q w3 W → W.cell? ⟨w.heap.size, 0, none⟩ = some (.int .i64 4) ∧ W.cell? ⟨w.heap.size, 1, none⟩ = some (.bool b) ∧ W.cell? ⟨w.heap.size + 1, 0, none⟩ = some (.int .i64 k) ∧ W.cell? ⟨w.heap.size + 1, 1, none⟩ = some (.int .i64 n) ∧ W.cell? ⟨w.heap.size + 1, 2, none⟩ = some (.bool false) ∧ W.cell? ⟨w.heap.size + 1, 3, none⟩ = some (.slice A m m) ∧ W.cell? ⟨w.heap.size + 2, 0, none⟩ = some (.int .i64 N) ∧ W.cell? ⟨w.heap.size + 2, 1, none⟩ = some (.bool z) ∧ W.cell? ⟨w.heap.size + 2, 2, none⟩ = some (.bool false) ∧ W.cell? ⟨w.heap.size + 2, 3, none⟩ = some (.slice none 0 0)) := hide fun W h => ⟨(h.facts.1 _ 0 h0).trans t0, (h.facts.1 _ 1 h0).trans t1, (h.facts.1 _ 0 h1).trans k0, (h.facts.1 _ 1 h1).trans k1, (h.facts.1 _ 2 h1).trans k2, (h.facts.1 _ 3 h1).trans k3, (h.facts.1 _ 0 h2).trans x0, (h.facts.1 _ 1 h2).trans x1, (h.facts.1 _ 2 h2).trans x2, (h.facts.1 _ 3 h2).trans x3⟩
 obtain ⟨w4, hw4⟩ : ∃ w4, w3.alloc (.cells #[.int .i64 (-1)] 3) = w4 := ⟨_, rfl⟩
 obtain ⟨hq4, hs4, hn⟩ := box1 hw4
 have h3 : w3.heap.size < w4.heap.size := by omega
 have N0 := hide (show w4.cell? ⟨w3.heap.size, 0, none⟩ = some (.int .i64 (-1)) from hn 0 _ rfl)
 have HZ := hide (size_ly ((hly.up hq3).up hq4) b)
 have HRP := hide (fun (W : World) (hW : Q w4 W) => show Calls _ _ #[.slice (some ⟨w3.heap.size, 0, none⟩) 1 1, .int .i64 2] W _ from repeat_any 2 w3.heap.size (-1) W (by omega) (Nat.lt_of_lt_of_le h3 hW.size) ((hW.facts.1 _ 0 h3).trans N0.out))
 have HW3 := hide hw3
 have HW4 := hide hw4
 have HQ3 := hide hq3
 have HQ34 := hide hq4
 clear hck hwr hw3 hw4 hc hd he hq3 hq4 hly k0 k1 k2 k3 t0 t1 x0 x1 x2 x3 hn
 rw [hs3] at HRP
 obtain ⟨t0, t1, k0, k1, k2, k3, x0, x1, x2, x3⟩ := KA.out w4 HQ34.out
 rw [← HW4.out] at t0 t1 k0 k1 k2 k3 x0 x1 x2 x3
 go_enter Try.func30, Try.ntmps30
 go_upto_region 1 with fail
 rw [HW3.out]
 go_wp2_with fail
 rw [HW4.out]
 refine HZ.out.mono ?_
 rintro e w5 ⟨rfl, hq5⟩
 have HQ45 := hide hq5
 have HR5 := hide (HRP.out w5 hq5)
 clear hq5 t0 t1 k0 k1 k2 k3 x0 x1 x2 x3
 go_wp2_with fail
 refine HR5.out.mono ?_
 rintro e w6 ⟨g, rfl, hown, hq6⟩
 obtain ⟨t0, t1, k0, k1, k2, k3, x0, x1, x2, x3⟩ := KA.out w6 (HQ34.out.trans (HQ45.out.trans hq6))
 have HQ6 := hide (HQ3.out.trans (HQ34.out.trans (HQ45.out.trans hq6)))
 have HWW := hide (HWR.out g w6 HQ6.out (own_lower hown (HQ3.out.trans (HQ34.out.trans HQ45.out)).size))
 clear hown hq6
 go_wp2_with fail
 refine HWW.out.mono ?_
 rintro e w7 ⟨rfl, hq7, hown7⟩
 have HO7 := hide hown7
 clear hown7 t0 t1 k0 k1 k2 k3 x0 x1 x2 x3
 go_wp2_with fail
 go_ret
 exact ⟨g, rfl, hq7, HO7.out⟩
theorem Encode_of {w : World} {v x : Value} {L : List Value} {b : Bool} (hck : Ck w v x) (hwr : ∀ (B W : World) (g : Nat), Ck W v x → Q B W → W.ownsRow B.heap.size 3 1 (.slice (some ⟨g, 0, none⟩) 2 2) 2 [.int .i64 (-1), .int .i64 (-1)] → Calls Try.prog 57 #[tgV b, v, .slice (some ⟨g, 0, none⟩) 2 2, x] W (WrP B g L)) :
  Calls Try.prog 7 #[v, tgV b, x] w fun e w' => ∃ g, e = .returned (.tuple #[.slice (some ⟨g, 0, none⟩) 2 2, .int .i64 0]) ∧ Q w w' ∧ w'.ownsRow w.heap.size 3 1 (.slice (some ⟨g, 0, none⟩) 2 2) 2 L := by
 have HV := hide (fun W (hW : Q w W) => cellValid_ck (hck.up hW) b)
 have HE := hide (fun W (hW : Q w W) => encode_of (hck.up hW) (fun g W' hW' h => hwr W W' g ((hck.up hW).up hW') hW' h))
 obtain ⟨⟨k, n, A, m, rfl⟩, N, z, rfl⟩ := hck.cells
 obtain ⟨w3, hw3⟩ : ∃ w3, ((w.alloc (.cells #[.int .i64 k, .int .i64 n, .bool false, .slice A m m] 24)).alloc (.cells #[.int .i64 4, .bool b] 26)).alloc (.cells #[.int .i64 N, .bool z, .bool false, .slice none 0 0] 31) = w3 := ⟨_, rfl⟩
 obtain ⟨hq3, hs3, hc, hd, he⟩ := box3 hw3
 have h0 : w.heap.size < w3.heap.size := by omega
 have h1 : w.heap.size + 1 < w3.heap.size := by omega
 have h2 : w.heap.size + 2 < w3.heap.size := by omega
 have k0 := hc 0 _ rfl
 have k1 := hc 1 _ rfl
 have k2 := hc 2 _ rfl
 have k3 := hc 3 _ rfl
 have t0 := hd 0 _ rfl
 have t1 := hd 1 _ rfl
 have x0 := he 0 _ rfl
 have x1 := he 1 _ rfl
 have x2 := he 2 _ rfl
 have x3 := he 3 _ rfl
 have KA : Hid (∀ W, Q w3 W → W.cell? ⟨w.heap.size + 1, 0, none⟩ = some (.int .i64 4) ∧ W.cell? ⟨w.heap.size + 1, 1, none⟩ = some (.bool b) ∧ W.cell? ⟨w.heap.size, 0, none⟩ = some (.int .i64 k) ∧ W.cell? ⟨w.heap.size, 1, none⟩ = some (.int .i64 n) ∧ W.cell? ⟨w.heap.size, 2, none⟩ = some (.bool false) ∧ W.cell? ⟨w.heap.size, 3, none⟩ = some (.slice A m m) ∧ W.cell? ⟨w.heap.size + 2, 0, none⟩ = some (.int .i64 N) ∧ W.cell? ⟨w.heap.size + 2, 1, none⟩ = some (.bool z) ∧ W.cell? ⟨w.heap.size + 2, 2, none⟩ = some (.bool false) ∧ W.cell? ⟨w.heap.size + 2, 3, none⟩ = some (.slice none 0 0)) := hide fun W h => ⟨(h.facts.1 _ 0 h1).trans t0, (h.facts.1 _ 1 h1).trans t1, (h.facts.1 _ 0 h0).trans k0, (h.facts.1 _ 1 h0).trans k1, (h.facts.1 _ 2 h0).trans k2, (h.facts.1 _ 3 h0).trans k3, (h.facts.1 _ 0 h2).trans x0, (h.facts.1 _ 1 h2).trans x1, (h.facts.1 _ 2 h2).trans x2, (h.facts.1 _ 3 h2).trans x3⟩
 have HV3 := hide (HV.out w3 hq3)
 have HW3 := hide hw3
 have HQ3 := hide hq3
 clear hck hwr hw3 hc hd he hq3 HV
 go_enter Try.func7, Try.ntmps7
 go_upto_region 1 with fail
 rw [HW3.out]
 go_wp2_with fail
 refine HV3.out.mono ?_
 rintro e w4 ⟨rfl, hq4⟩
 clear k0 k1 k2 k3 t0 t1 x0 x1 x2 x3
 obtain ⟨t0, t1, k0, k1, k2, k3, x0, x1, x2, x3⟩ := KA.out w4 hq4
 have HQ4 := hide (HQ3.out.trans hq4)
 have HE4 := hide (HE.out w4 (HQ3.out.trans hq4))
 clear hq4
 go_wp2_with fail
 refine HE4.out.mono ?_
 rintro e w5 ⟨g, rfl, hq5, hown⟩
 have HO := hide (own_lower hown HQ4.out.size)
 have HQ5 := hide (HQ4.out.trans hq5)
 clear hown hq5 t0 t1 k0 k1 k2 k3 x0 x1 x2 x3
 go_wp2_with fail
 go_ret2
 exact ⟨g, rfl, HQ5.out, HO.out⟩
theorem flatI : ∀ xs : List Int, xs.flatMap (encI .i64) = xs.map (Value.int .i64)
 | [] => rfl
 | x :: r => by rw [List.flatMap_cons, flatI r]; rfl
theorem SameBytes_same (A : Option Addr) (n c : Nat) (B : Option Addr) (d : Nat) (xs : List Int) (w : World) (h1 : Sl 1 (encI .i64) w A n c xs) (h2 : Sl 1 (encI .i64) w B n d xs) : Calls Try.prog 8 #[.slice A n c, .slice B n d] w (R1 w (.bool true)) := by
 unfold R1
 have hni : (n : Int) ≤ 9223372036854775807 := by have := h1.cap; have := h1.most; omega
 have d0 : ((n : Int) != (n : Int)) = false := by simp
 have H1 := hide h1
 have H2 := hide h2
 clear h1 h2
 go_enter Try.func8, Try.ntmps8
 go_wp2_with fail
 go_loopw [5] (fun vi wr => ∃ k : Nat, k ≤ n ∧ vi = .int .i64 k ∧ Q w wr) (fun vi _ => n - (intOf vi).toNat)
 case atStart => exact ⟨0, by omega, by go_num, Q.refl _⟩
 case round =>
  obtain ⟨k, hk, rfl, hq⟩ := hrel
  have HQ := hide hq
  by_cases hlt : k < n
  ·have hd1 : decide ((k : Int) < (n : Int)) = true := by simp; omega
   have hd0 : decide (k < n) = true := by simp; omega
   have hlti : (k : Int) < (n : Int) := by omega
   obtain ⟨b1, o1, y1, e1, hb1, g1, c1⟩ := (H1.out.up hq).at_ (fun _ => rfl) (by decide) k hlt
   obtain ⟨b2, o2, y2, e2, hb2, g2, c2⟩ := (H2.out.up hq).at_ (fun _ => rfl) (by decide) k hlt
   cases e1
   cases e2
   obtain rfl : y1 = y2 := by rw [g1] at g2; injection g2
   have z1 : wr.cell? ⟨b1, o1 + k * 1, none⟩ = some (.int .i64 y1) := c1 0 _ rfl
   have z2 : wr.cell? ⟨b2, o2 + k * 1, none⟩ = some (.int .i64 y1) := c2 0 _ rfl
   rw [Nat.mul_one] at z1 z2
   have d1 : (y1 != y1) = false := by simp
   clear hq g1 g2 c1 c2
   go_upto_region 6 with fail
   have hxc := ext_cell
   refine wp_region_ext (by kernel_rfl) (by kernel_rfl) ?_
   repeat (go_big_quiet_step ((fail)))
   clear hxc
   refine wpQuiet_nil ?_
   intro wz hwwz
   have hqwz := q_of_ext hwwz
   clear hwwz
   obtain ⟨hcwz, hfwz, hzwz⟩ := hqwz.facts
   try simp at hzwz
   try have hs0wz : w.heap.size < wz.heap.size := by omega
   try have hs1wz : w.heap.size + 1 < wz.heap.size := by omega
   clear hcwz hfwz
   go_wp2_with fail
   go_roundw
   case rel => exact ⟨k + 1, by omega, by go_num, HQ.out.trans hqwz⟩
   case measure => simp [intOf] <;> omega
  ·have hd1 : decide ((k : Int) < (n : Int)) = false := by simp; omega
   have hd0 : decide (k < n) = false := by simp; omega
   obtain rfl : k = n := by omega
   clear hq
   go_wp2_with fail
   go_ret
   exact ⟨rfl, HQ.out⟩
theorem sl_own2 {w : World} {B g : Nat} {xs : List Int} (h : w.ownsRow B 3 1 (.slice (some ⟨g, 0, none⟩) 2 2) 2 (xs.map (Value.int .i64))) : Sl 1 (encI .i64) w (some ⟨g, 0, none⟩) 2 2 xs := Sl.own (by rw [flatI]; exact h) (fun _ => rfl) (by decide)
theorem sl_lit2 {w w1 : World} {a b : Int} (h : w.alloc (.cells #[.int .i64 a, .int .i64 b] 3) = w1) : Sl 1 (encI .i64) w1 (some ⟨w.heap.size, 0, none⟩) 2 2 [a, b] := by
 have h9 : w1.heap[w.heap.size]? = some (.cells #[.int .i64 a, .int .i64 b] 3 (0, 0)) := by rw [← h]; exact heap_alloc_new w _
 exact sl_own2 (B := 0) (xs := [a, b]) (own_of_whole (xs := [.int .i64 a, .int .i64 b]) h9 (Nat.zero_le _) rfl (by unfold maxLen; omega))
theorem enc_leaf (b : Bool) (w : World) : Calls Try.prog 7 #[lfV 16, tgV b, c258] w fun e w' => ∃ g, e = .returned (.tuple #[.slice (some ⟨g, 0, none⟩) 2 2, .int .i64 0]) ∧ Q w w' ∧ w'.ownsRow w.heap.size 3 1 (.slice (some ⟨g, 0, none⟩) 2 2) 2 (by2 b) :=
 Encode_of (.leaf) fun B W g _ hq hr => write_leaf b g B W hq hr
theorem enc_opt (hh : Nat) (w : World) (h8 : Op8 w hh) : Calls Try.prog 7 #[opV hh, tgV false, cNul] w fun e w' => ∃ g, e = .returned (.tuple #[.slice (some ⟨g, 0, none⟩) 2 2, .int .i64 0]) ∧ Q w w' ∧ w'.ownsRow w.heap.size 3 1 (.slice (some ⟨g, 0, none⟩) 2 2) 2 [.int .i64 (-1), .int .i64 0] :=
 Encode_of (.opt h8) fun B W g hck hq hr => write_opt false g hh B W hq (by cases hck with | opt h => exact h) hr
theorem known_any (w : World) : Calls Try.prog 21 #[] w (R1 w (.bool true)) := by
 unfold R1
 obtain ⟨w1, hw1⟩ : ∃ w1, w.alloc (.cells #[.int .i64 2, .int .i64 16, .bool false, .slice none 0 0] 24) = w1 := ⟨_, rfl⟩
 obtain ⟨hq1, hs1, hc⟩ := box1 hw1
 have h0 : w.heap.size < w1.heap.size := by omega
 have k0 := hc 0 _ rfl
 have k1 := hc 1 _ rfl
 have k2 := hc 2 _ rfl
 have k3 := hc 3 _ rfl
 have K0 := hide k0
 have K1 := hide k1
 have K2 := hide k2
 have K3 := hide k3
 have HW1 := hide hw1
 have HQ1 := hide hq1
 have HE1 := hide (enc_leaf false w1)
 clear hw1 hc hq1
 go_enter Try.func21, Try.ntmps21
 go_upto_region 2 with fail
 rw [HW1.out]
 go_wp2_with fail
 refine HE1.out.mono ?_
 rintro e w2 ⟨g2, rfl, hq2, ho2⟩
 have S2 := hide (sl_own2 (xs := [2, 1]) ho2)
 have HQ2 := hide (HQ1.out.trans hq2)
 have HE2 := hide (enc_leaf true w2)
 clear k0 k1 k2 k3 ho2
 have k0 := (hq2.facts.1 _ 0 h0).trans K0.out
 have k1 := (hq2.facts.1 _ 1 h0).trans K1.out
 have k2 := (hq2.facts.1 _ 2 h0).trans K2.out
 have k3 := (hq2.facts.1 _ 3 h0).trans K3.out
 clear hq2
 go_wp2_with fail
 refine HE2.out.mono ?_
 rintro e w3 ⟨g3, rfl, hq3, ho3⟩
 have S2 := hide (S2.out.up hq3)
 have S3 := hide (sl_own2 (xs := [1, 2]) ho3)
 have HQ3 := hide (HQ2.out.trans hq3)
 clear k0 k1 k2 k3 ho3 hq3
 obtain ⟨w4, hw4⟩ : ∃ w4, w3.alloc (.cells #[.int .i64 2, .int .i64 8, .bool false, .slice none 0 0] 24) = w4 := ⟨_, rfl⟩
 obtain ⟨hq4, hs4, hc4⟩ := box1 hw4
 have h3 : w3.heap.size < w4.heap.size := by omega
 obtain ⟨w5, hw5⟩ : ∃ w5, w4.alloc (.cells #[.int .i64 4, .int .i64 0, .bool false, .slice (some ⟨w3.heap.size, 0, none⟩) 1 1] 24) = w5 := ⟨_, rfl⟩
 obtain ⟨hq5, hs5, hc5⟩ := box1 hw5
 have h8 : Op8 w5 w3.heap.size := ⟨by omega, (hq5.facts.1 _ 0 h3).trans (hc4 0 _ rfl), (hq5.facts.1 _ 1 h3).trans (hc4 1 _ rfl), (hq5.facts.1 _ 2 h3).trans (hc4 2 _ rfl), (hq5.facts.1 _ 3 h3).trans (hc4 3 _ rfl)⟩
 have k0 : w5.cell? ⟨w4.heap.size, 0, none⟩ = some (.int .i64 4) := hc5 0 _ rfl
 have k1 : w5.cell? ⟨w4.heap.size, 1, none⟩ = some (.int .i64 0) := hc5 1 _ rfl
 have k2 : w5.cell? ⟨w4.heap.size, 2, none⟩ = some (.bool false) := hc5 2 _ rfl
 have k3 : w5.cell? ⟨w4.heap.size, 3, none⟩ = some (.slice (some ⟨w3.heap.size, 0, none⟩) 1 1) := hc5 3 _ rfl
 rw [hs4] at k0 k1 k2 k3
 have HE5 := hide (enc_opt w3.heap.size w5 h8)
 have S2 := hide (S2.out.up (hq4.trans hq5))
 have S3 := hide (S3.out.up (hq4.trans hq5))
 have HQ5 := hide (HQ3.out.trans (hq4.trans hq5))
 have HW4 := hide hw4
 have HW5 := hide hw5
 clear hw4 hw5 hc4 hc5 hq4 hq5 hs5 h8 hs4 hs1 h3
 go_upto_region 5 with fail
 rw [HW4.out, HW5.out]
 go_wp2_with fail
 refine HE5.out.mono ?_
 rintro e w6 ⟨g6, rfl, hq6, ho6⟩
 have S6 := hide (sl_own2 (xs := [-1, 0]) ho6)
 have S2 := hide (S2.out.up hq6)
 have S3 := hide (S3.out.up hq6)
 have HQ6 := hide (HQ5.out.trans hq6)
 clear k0 k1 k2 k3 ho6 hq6
 obtain ⟨w7, hw7⟩ : ∃ w7, w6.alloc (.cells #[.int .i64 2, .int .i64 1] 3) = w7 := ⟨_, rfl⟩
 obtain ⟨hq7, hs7, -⟩ := box1 hw7
 have HB7 := hide (SameBytes_same _ 2 2 _ 2 _ w7 (S2.out.up hq7) (sl_lit2 hw7))
 have S3 := hide (S3.out.up hq7)
 have S6 := hide (S6.out.up hq7)
 have HQ7 := hide (HQ6.out.trans hq7)
 have HW7 := hide hw7
 clear hw7 hq7 hs7
 go_wp2_with fail
 rw [HW7.out]
 refine HB7.out.mono ?_
 rintro e w8 ⟨rfl, hq8⟩
 obtain ⟨w9, hw9⟩ : ∃ w9, w8.alloc (.cells #[.int .i64 1, .int .i64 2] 3) = w9 := ⟨_, rfl⟩
 obtain ⟨hq9, hs9, -⟩ := box1 hw9
 have HB9 := hide (SameBytes_same _ 2 2 _ 2 _ w9 (S3.out.up (hq8.trans hq9)) (sl_lit2 hw9))
 have S6 := hide (S6.out.up (hq8.trans hq9))
 have HQ9 := hide (HQ7.out.trans (hq8.trans hq9))
 have HW9 := hide hw9
 clear hw9 hq9 hq8 hs9
 go_wp2_with fail
 rw [HW9.out]
 refine HB9.out.mono ?_
 rintro e w10 ⟨rfl, hq10⟩
 obtain ⟨w11, hw11⟩ : ∃ w11, w10.alloc (.cells #[.int .i64 (-1), .int .i64 0] 3) = w11 := ⟨_, rfl⟩
 obtain ⟨hq11, hs11, -⟩ := box1 hw11
 have HB11 := hide (SameBytes_same _ 2 2 _ 2 _ w11 (S6.out.up (hq10.trans hq11)) (sl_lit2 hw11))
 have HQ11 := hide (HQ9.out.trans (hq10.trans hq11))
 have HW11 := hide hw11
 clear hw11 hq11 hq10 hs11
 go_wp2_with fail
 rw [HW11.out]
 refine HB11.out.mono ?_
 rintro e w12 ⟨rfl, hq12⟩
 go_wp2_with fail
 go_ret
 exact ⟨rfl, HQ11.out.trans hq12⟩
namespace Ri
end Ri
open Go.ChangeShapes Go.WideShapes Go.ChangeAt Go.RowKit
theorem bulk_part {H : Type} {d : DataW H} {l : List (DataW H)} (h : d ∈ l) : Rows.uptoBulk d ≤ Rows.uptoBulkAll l := by
 induction l with
 | nil => cases h
 | cons x r ih =>
  simp only [Rows.uptoBulkAll]
  cases List.mem_cons.1 h with
  | inl e => subst e; omega
  | inr e => have := ih e; omega
theorem bulk_sum {H α : Type} (sz : α → Nat) (q : Nat → α) (D : Nat → DataW H) : ∀ (l : List Nat), (∀ i ∈ l, sz (q i) ≤ Rows.uptoBulk (D i)) → ((l.map q).map sz).sum ≤ Rows.uptoBulkAll (l.map D)
 | [], _ => Nat.zero_le _
 | i :: r, h => by
  have h1 := h i (List.mem_cons_self ..)
  have h2 := bulk_sum sz q D r fun j hj => h j (List.mem_cons_of_mem _ hj)
  simp only [List.map_cons, List.sum_cons, Rows.uptoBulkAll]
  omega
structure RdrC (Z : Nat) (P : Program) (t : TypeId) (k : Nat) {α : Type} (enc : α → List Value) (ok : World → α → Prop) (sz : α → Nat) : Prop where
 len : ∀ a, (enc a).length = k
 cells : P.cellsOf t = k
 read : ∀ {H : Type} {en : TypeId × Value → H} {w : World} {n : Nat} {cs : List Value} {x : DataW H × List MemPlace}, SizeOf.sizeOf x.1 < Z → DataW.trod en P w 0 (fun _ => true) true n t cs = some x → (∀ m ∈ x.1.weights P t, m ≤ 140737488351232) → ∃ a, cs = enc a ∧ ok w a ∧ sz a ≤ Rows.uptoBulk x.1
section
variable {P : Program} {t e : TypeId} {Z : Nat}
theorem Rdr.c {k : Nat} {α : Type} {enc : α → List Value} {ok : World → α → Prop} (R : Rdr P t k enc ok) (Z : Nat) : RdrC Z P t k enc ok (fun _ => 0) := ⟨R.len, R.cells, fun _ h hm => by obtain ⟨a, h1, h2⟩ := R.read h hm; exact ⟨a, h1, h2, Nat.zero_le _⟩⟩
theorem RdrC.less {k Z' : Nat} {α : Type} {enc : α → List Value} {ok : World → α → Prop} {sz : α → Nat} (h : RdrC Z P t k enc ok sz) (hz : Z' ≤ Z) : RdrC Z' P t k enc ok sz := ⟨h.len, h.cells, fun hx => h.read (Nat.lt_of_lt_of_le hx hz)⟩
theorem RdrC.slice {k bb : Nat} {α : Type} [Inhabited α] {enc : α → List Value} {ok : World → α → Prop} {sz : α → Nat} (R : RdrC Z P e k enc ok sz) (hk0 : 0 < k) (hu : P.underlying t = some (.slice e)) (hc : P.cellsOf t = 1) (hb : P.bytesOf e = bb) (hb0 : 0 < bb) : RdrC (Z + 1) P t 1 (encV (α := α)) (SlOk k enc ok) (fun v => (v.xs.map sz).sum) :=
 ⟨fun _ => rfl, hc, fun {H en w n cs x} hz h hm => by
  rcases Go.Deep.open_slice hu h with ⟨h1, h2⟩ | ⟨a, len, cap, m, k', D, Pl, h1, _, hl, hcm, hmm, hx, hcell⟩
  ·exact ⟨⟨none, 0, 0, []⟩, h1, ⟨Sl.nil w, fun _ => ⟨rfl, rfl⟩, fun x hx => (by cases hx), Nat.zero_le _⟩, Nat.zero_le _⟩
  ·simp only [if_true] at hmm
   rw [R.cells] at hcell
   have hx1 : x.1 = .slice ((List.range len).map D) ((List.range (m - len)).map fun j => D (len + j)) := by rw [hx]
   have hcap : cap ≤ 140737488351232 := by
    have := hm ((len + (m - len)) * P.bytesOf e) (by rw [hx1]; simp [DataW.weights, hu])
    have h3 : len + (m - len) ≤ (len + (m - len)) * P.bytesOf e := Nat.le_mul_of_pos_right _ (by rw [hb]; exact hb0)
    omega
   obtain ⟨q, hq⟩ := Go.Deep.choose_lt (α := α) (p := fun i y => w.cells? 0 (a.add (i * k)) k = some (enc y) ∧ ok w y ∧ sz y ≤ Rows.uptoBulk (D i)) (n := len) (fun i hi => by
    obtain ⟨cs', e1, e2⟩ := hcell i (by omega)
    have hmem : D i ∈ (List.range len).map D := List.mem_map.2 ⟨i, by simp [hi], rfl⟩
    have hsz : SizeOf.sizeOf (D i) < Z := by
     have h3 := List.sizeOf_lt_of_mem hmem
     rw [hx1] at hz
     simp at hz
     omega
    obtain ⟨y, rfl, hy, hb9⟩ := R.read hsz e2 (fun m' hm' => hm m' (by
     rw [hx1]
     simp only [DataW.weights, hu, List.mem_cons, List.mem_append]
     exact .inr (.inl (weightsAll_mem' (d := D i) hmem m' hm'))))
    exact ⟨y, e1, hy, hb9⟩)
   have hL : (((List.range len).map q).flatMap enc).length = len * k := by rw [flatMap_length R.len]; simp
   refine ⟨⟨some a, len, cap, (List.range len).map q⟩, h1, ⟨⟨Open.rd_of_cells ?_, by simp, hl, Nat.le_trans hcap (by decide)⟩, fun h => (by cases h), fun y hy => ?_, hcap⟩, ?_⟩
   ·intro i hi
    rw [hL] at hi
    have hd : i / k < len := (Nat.div_lt_iff_lt_mul hk0).2 hi
    have hmod := Nat.mod_lt i hk0
    have hdm := Nat.div_add_mod i k
    obtain ⟨_, _, hcc⟩ := World.cells?_some (hq (i / k) hd).1
    have h3 := hcc (i % k) hmod
    rw [Go.Deep.add_add, show i / k * k + i % k = i by rw [Nat.mul_comm]; exact hdm] at h3
    rw [h3]
    have hg := flatMap_get R.len ((List.range len).map q) (i / k) (i % k) (q (i / k)) (by simp [hd]) hmod
    rw [show i / k * k + i % k = i by rw [Nat.mul_comm]; exact hdm] at hg
    rw [List.getElem?_eq_getElem (by rw [hL]; exact hi)] at hg
    exact hg.symm
   ·obtain ⟨i, hi, rfl⟩ := List.mem_map.1 hy
    exact (hq i (by simpa using hi)).2.1
   ·have h3 := bulk_sum sz q D (List.range len) fun i hi => (hq i (by simpa using hi)).2.2
    rw [hx1]
    simp only [Rows.uptoBulk]
    omega⟩
structure RdrFC (Z : Nat) (P : Program) (fs : Array Field) (i off k : Nat) {α : Type} (enc : α → List Value) (ok : World → α → Prop) (sz : α → Nat) : Prop where
 len : ∀ a, (enc a).length = k
 read : ∀ {H : Type} {en : TypeId × Value → H} {w : World} {n : Nat} {cs : List Value} {xs : List (DataW H × List MemPlace)}, (∀ x ∈ xs, SizeOf.sizeOf x.1 < Z) → cs.length = off + k →
  (∀ (j : Nat) (f : Field), fs[j]? = some f → DataW.trod en P w 0 (fun _ => true) true n f.type ((cs.drop f.offset).take (P.cellsOf f.type)) = xs[j]?) → xs.length = fs.size →
  (∀ (j : Nat) (f : Field) (x : DataW H × List MemPlace), fs[j]? = some f → xs[j]? = some x → ∀ m ∈ x.1.weights P f.type, m ≤ 140737488351232) → ∃ a, cs.drop off = enc a ∧ ok w a ∧ sz a ≤ Rows.uptoBulkAll ((xs.drop i).map (·.1))
theorem RdrFC.one {fs : Array Field} {i off k : Nat} {α : Type} {enc : α → List Value} {ok : World → α → Prop} {sz : α → Nat} {f : Field} (hf : fs[i]? = some f) (ho : f.offset = off) (R : RdrC Z P f.type k enc ok sz) : RdrFC Z P fs i off k enc ok sz :=
 ⟨R.len, fun {H en w n cs xs} hz hl hx hs hm => by
  have h := hx i f hf
  rw [ho, R.cells, List.take_of_length_le (by rw [List.length_drop]; omega)] at h
  obtain ⟨x, e⟩ : ∃ x, xs[i]? = some x := ⟨xs[i]'(by rw [hs]; exact (Array.getElem?_eq_some_iff.1 hf).1), List.getElem?_eq_getElem _⟩
  rw [e] at h
  obtain ⟨a, h1, h2, h3⟩ := R.read (hz x (List.mem_of_getElem? e)) h (hm i f x hf e)
  have h4 : x.1 ∈ (xs.drop i).map (·.1) := List.mem_map.2 ⟨x, List.mem_of_getElem? (i := 0) (by rw [List.getElem?_drop, Nat.add_zero]; exact e), rfl⟩
  exact ⟨a, h1, h2, Nat.le_trans h3 (bulk_part h4)⟩⟩
theorem RdrFC.cons {fs : Array Field} {i off k k' : Nat} {α β : Type} {enc : α → List Value} {ok : World → α → Prop} {sz : α → Nat} {enc' : β → List Value} {ok' : World → β → Prop} {sz' : β → Nat} {f : Field} (hf : fs[i]? = some f) (ho : f.offset = off) (R : RdrC Z P f.type k enc ok sz)
  (S : RdrFC Z P fs (i + 1) (off + k) k' enc' ok' sz') : RdrFC Z P fs i off (k + k') (fun p : α × β => enc p.1 ++ enc' p.2) (fun w p => ok w p.1 ∧ ok' w p.2) (fun p => sz p.1 + sz' p.2) :=
 ⟨fun p => by rw [List.length_append, R.len, S.len], fun {H en w n cs xs} hz hl hx hs hm => by
  have h := hx i f hf
  rw [ho, R.cells] at h
  obtain ⟨x, e⟩ : ∃ x, xs[i]? = some x := ⟨xs[i]'(by rw [hs]; exact (Array.getElem?_eq_some_iff.1 hf).1), List.getElem?_eq_getElem _⟩
  rw [e] at h
  obtain ⟨a, e1, h1, h2⟩ := R.read (hz x (List.mem_of_getElem? e)) h (hm i f x hf e)
  obtain ⟨b, e2, h3, h4⟩ := S.read hz (by omega) hx hs hm
  refine ⟨(a, b), ?_, ⟨h1, h3⟩, ?_⟩
  ·rw [← e1, ← e2, ← List.drop_drop, List.take_append_drop]
  ·have h5 : xs.drop i = x :: xs.drop (i + 1) := by
    obtain ⟨hlt, he⟩ := List.getElem?_eq_some_iff.1 e
    rw [List.drop_eq_getElem_cons hlt, he]
   rw [h5, List.map_cons]
   simp only [Rows.uptoBulkAll]
   omega⟩
theorem RdrC.struct {fs : Array Field} {k : Nat} {α : Type} {enc : α → List Value} {ok : World → α → Prop} {sz : α → Nat} (hu : P.underlying t = some (.struct fs)) (hc : P.cellsOf t = k) (S : RdrFC Z P fs 0 0 k enc ok sz) : RdrC (Z + 1) P t k enc ok (fun a => sz a + 1) :=
 ⟨S.len, hc, fun {H en w n cs x} hz h hm => by
  obtain ⟨xs, k', _, rfl, hl, hxl, hf⟩ := DataW.trod_struct hu h
  obtain ⟨a, h1, h2, h3⟩ := S.read (cs := cs) (fun y hy => by
   have h3 := List.sizeOf_lt_of_mem (List.mem_map.2 ⟨y, hy, rfl⟩ : y.1 ∈ xs.map (·.1))
   simp at hz
   omega) (by rw [hl, hc]; omega) hf hxl (fun j f x hfj hxj m hmj => hm m (by
   simp only [DataW.weights, hu]
   exact DataW.weights_mem_each (j := j) (t := f.type) (d := x.1) (by simpa using ⟨f, by simpa using hfj, rfl⟩) (by simpa using ⟨x.2, hxj⟩) m hmj))
  refine ⟨a, by simpa using h1, h2, ?_⟩
  simp only [Rows.uptoBulk]
  simpa using h3⟩
end
inductive Lay where
 | mk (k n : Int) (f : Bool) (A : Option Addr) (len cap : Nat) (parts : List Lay)
instance : Inhabited Lay := ⟨.mk 0 0 false none 0 0 []⟩
def encL : Lay → List Value
 | .mk k n f A len cap _ => [.int .i64 k, .int .i64 n, .bool f, .slice A len cap]
theorem len_encL (c : Lay) : (encL c).length = 4 := by cases c; rfl
def Lay.v : Lay → Value
 | .mk k n f A len cap _ => .agg #[.int .i64 k, .int .i64 n, .bool f, .slice A len cap]
def Lay.k : Lay → Int
 | .mk k _ _ _ _ _ _ => k
def Lay.n : Lay → Int
 | .mk _ n _ _ _ _ _ => n
def Lay.f : Lay → Bool
 | .mk _ _ f _ _ _ _ => f
def Lay.parts : Lay → List Lay
 | .mk _ _ _ _ _ _ ps => ps
inductive LayR (w : World) : Lay → Prop
 | mk {k n : Int} {f : Bool} {A : Option Addr} {len cap : Nat} {parts : List Lay} : (Lit.int .i64 k).wf = true → (Lit.int .i64 n).wf = true → Sl 4 encL w A len cap parts → (A = none → len = 0 ∧ cap = 0) → len ≤ 140737488351232 → (∀ p ∈ parts, LayR w p) → LayR w (.mk k n f A len cap parts)
theorem LayR.up {w w' : World} {c : Lay} (h : LayR w c) (hq : Q w w') : LayR w' c := by
 induction h with
 | mk h1 h2 h3 h4 h5 _ ih => exact .mk h1 h2 (h3.up hq) h4 h5 ih
def Lay.flat : Lay → List Lay
 | .mk k n f A len cap ps => .mk k n f A len cap ps :: ps.attach.flatMap fun p => Lay.flat p.1
termination_by c => SizeOf.sizeOf c
decreasing_by
 have := List.sizeOf_lt_of_mem p.2
 simp
 omega
theorem attach_flat {α β : Type} (f : α → List β) (l : List α) : (l.attach.flatMap fun p => f p.1) = l.flatMap f := by
 conv => rhs; rw [← List.attach_map_subtype_val l]
 rw [List.flatMap_map]
theorem attach_map' {α β : Type} (f : α → β) (l : List α) : (l.attach.map fun p => f p.1) = l.map f := by
 conv => rhs; rw [← List.attach_map_subtype_val l]
 rw [List.map_map]
 rfl
theorem flat_mk (k n : Int) (f : Bool) (A : Option Addr) (len cap : Nat) (ps : List Lay) : (Lay.mk k n f A len cap ps).flat = .mk k n f A len cap ps :: ps.flatMap Lay.flat := by
 rw [Lay.flat, attach_flat]
def Lay.count (l : Lay) : Nat := l.flat.length
theorem count_mk (k n : Int) (f : Bool) (A : Option Addr) (len cap : Nat) (ps : List Lay) : (Lay.mk k n f A len cap ps).count = 1 + (ps.map Lay.count).sum := by
 unfold Lay.count
 rw [flat_mk, List.length_cons, List.length_flatMap, Nat.add_comm]
theorem sum_le_of_mem : ∀ {l : List Nat} {x : Nat}, x ∈ l → x ≤ l.sum
 | y :: r, x, h => by
  rw [List.sum_cons]
  rcases List.mem_cons.1 h with rfl | h
  ·omega
  ·have := sum_le_of_mem h; omega
theorem count_part {l p : Lay} (h : p ∈ l.parts) : p.count < l.count := by
 cases l with
 | mk k n f A len cap ps =>
  rw [count_mk]
  have := sum_le_of_mem (List.mem_map.2 ⟨p, h, rfl⟩ : p.count ∈ ps.map Lay.count)
  omega
theorem count_pos (l : Lay) : 0 < l.count := by
 cases l
 rw [count_mk]
 omega
def Lay.deep : Lay → Nat
 | .mk _ _ _ _ _ _ ps => 1 + (ps.attach.map fun p => Lay.deep p.1).foldl max 0
termination_by c => SizeOf.sizeOf c
decreasing_by
 have := List.sizeOf_lt_of_mem p.2
 simp
 omega
theorem deep_mk (k n : Int) (f : Bool) (A : Option Addr) (len cap : Nat) (ps : List Lay) : (Lay.mk k n f A len cap ps).deep = 1 + (ps.map Lay.deep).foldl max 0 := by
 rw [Lay.deep, attach_map']
theorem foldl_max_le {m : Nat} : ∀ {l : List Nat} {a : Nat}, a ≤ m → (∀ x ∈ l, x ≤ m) → l.foldl max a ≤ m
 | [], a, h, _ => h
 | x :: r, a, h, hx => by
  rw [List.foldl_cons]
  exact foldl_max_le (by have := hx x (List.mem_cons_self ..); omega) fun y hy => hx y (List.mem_cons_of_mem _ hy)
theorem le_foldl_max : ∀ {l : List Nat} {a x : Nat}, x ∈ l → x ≤ l.foldl max a
 | y :: r, a, x, h => by
  rw [List.foldl_cons]
  rcases List.mem_cons.1 h with rfl | h
  ·exact Nat.le_trans (Nat.le_max_right a x) (go r (max a x))
  ·exact le_foldl_max h
where
 go : ∀ (r : List Nat) (a : Nat), a ≤ r.foldl max a
 | [], a => Nat.le_refl _
 | y :: r, a => by rw [List.foldl_cons]; exact Nat.le_trans (Nat.le_max_left a y) (go r _)
theorem deep_le {w : World} {l : Lay} (h : LayR w l) : l.deep ≤ l.count := by
 induction h with
 | @mk k n f A len cap ps _ _ _ _ _ _ ih =>
  rw [deep_mk, count_mk]
  have : (ps.map Lay.deep).foldl max 0 ≤ (ps.map Lay.count).sum := foldl_max_le (Nat.zero_le _) fun x hx => by
   obtain ⟨p, hp, rfl⟩ := List.mem_map.1 hx
   exact Nat.le_trans (ih p hp) (sum_le_of_mem (List.mem_map.2 ⟨p, hp, rfl⟩))
  omega
def bitsL (l : Lay) : Int := if l.k = 1 then 1 else if l.k = 2 then max l.n 0 else 0
def packR (l : Lay) : Int := l.parts.foldl (fun s p => min (s + min (bitsL p) 1000) 100000) 0
def Lay.cells : Lay → Int
 | .mk k n _ _ _ _ ps =>
  let m := (ps.attach.map fun p => Lay.cells p.1).foldl (fun s c => min (s + c) 100000) 0
  if k = 5 then min (min (max n 0) 100000 * m + 1) 100000 else min (m + 1) 100000
termination_by c => SizeOf.sizeOf c
decreasing_by
 have := List.sizeOf_lt_of_mem p.2
 simp
 omega
theorem cells_mk (k n : Int) (f : Bool) (A : Option Addr) (len cap : Nat) (ps : List Lay) : (Lay.mk k n f A len cap ps).cells = if k = 5 then min (min (max n 0) 100000 * ((ps.map Lay.cells).foldl (fun s c => min (s + c) 100000) 0) + 1) 100000 else min ((ps.map Lay.cells).foldl (fun s c => min (s + c) 100000) 0 + 1) 100000 := by
 rw [Lay.cells, attach_map']
theorem foldl_cap : ∀ {l : List Int} {a : Int}, 0 ≤ a → a ≤ 100000 → (∀ x ∈ l, 0 ≤ x) → 0 ≤ l.foldl (fun s c => min (s + c) 100000) a ∧ l.foldl (fun s c => min (s + c) 100000) a ≤ 100000
 | [], a, h, h2, _ => ⟨h, h2⟩
 | x :: r, a, h, h2, hx => by
  rw [List.foldl_cons]
  have := hx x (List.mem_cons_self ..)
  exact foldl_cap (by omega) (by omega) fun y hy => hx y (List.mem_cons_of_mem _ hy)
theorem cells_bd {w : World} {l : Lay} (h : LayR w l) : 0 ≤ l.cells ∧ l.cells ≤ 100000 := by
 induction h with
 | @mk k n f A len cap ps _ _ _ _ _ _ ih =>
  rw [cells_mk]
  obtain ⟨h0, h1⟩ := foldl_cap (l := ps.map Lay.cells) (a := 0) (by omega) (by omega) fun x hx => by
   obtain ⟨p, hp, rfl⟩ := List.mem_map.1 hx
   exact (ih p hp).1
  split
  ·have h3 : 0 ≤ min (max n 0) 100000 * ((ps.map Lay.cells).foldl (fun s c => min (s + c) 100000) 0) := Int.mul_nonneg (by omega) h0
   omega
  ·omega
def mostL (k : Int) : Int := if k = 2 then 64 else if k = 5 then 1000 else if k = 7 then 65536 else 9223372036854775807
def bigL (l : Lay) : Bool := decide (12 < l.parts.length) || (decide (mostL l.k < l.n) || (decide (l.k = 9) && decide (64 < packR l)))
def numL (k : Int) (m : Nat) : Bool := if k = 4 ∨ k = 5 then decide (m = 1) else if k = 6 ∨ k = 9 then true else if k = 8 then decide (1 ≤ m) else decide (m = 0)
def rightL (l : Lay) : Bool :=
 decide (0 ≤ l.k) && (decide (l.k ≤ 9) && (numL l.k l.parts.length && (!(l.f && decide (l.k ≠ 2)) &&
  (if l.k = 2 ∨ l.k = 7 then decide (1 ≤ l.n) else if l.k = 5 then decide (0 ≤ l.n) else if l.k = 9 then (l.parts.all fun p => decide (p.k = 1) || decide (p.k = 2)) && decide (l.n = 0) else decide (l.n = 0)))))
def validL (l : Lay) : Int := if 60 < l.count ∨ 5 < l.deep ∨ 4096 < l.cells then 3 else if l.flat.any bigL = true then 3 else if l.flat.all rightL = true then 0 else 1
theorem lay_step {Z : Nat} (h : RdrC Z Try.prog 24 4 encL LayR Lay.count) : RdrC (Z + 1 + 1) Try.prog 24 4 encL LayR Lay.count := by
 have S := RdrC.slice h (by decide) Try.underlying22 (by kernel_rfl) (show Try.prog.bytesOf 24 = 48 by kernel_rfl) (by decide)
 have T : RdrC (Z + 1 + 1) Try.prog 24 4 (fun p : Int × Int × Bool × SlV Lay => encI .i64 p.1 ++ (encI .i64 p.2.1 ++ (encB p.2.2.1 ++ encV p.2.2.2))) (fun w p => (Lit.int .i64 p.1).wf = true ∧ ((Lit.int .i64 p.2.1).wf = true ∧ (True ∧ SlOk 4 encL LayR w p.2.2.2))) (fun p => (0 + (0 + (0 + (p.2.2.2.xs.map Lay.count).sum))) + 1) :=
  RdrC.struct Try.underlying24 (by kernel_rfl) (by
   refine RdrFC.cons (i := 0) (off := 0) (k := 1) (k' := 3) (enc := encI .i64) (enc' := fun p : Int × Bool × SlV Lay => encI .i64 p.1 ++ (encB p.2.1 ++ encV p.2.2)) (ok := fun (_ : World) (a : Int) => (Lit.int .i64 a).wf = true) (ok' := fun w p => (Lit.int .i64 p.1).wf = true ∧ (True ∧ SlOk 4 encL LayR w p.2.2)) (sz := fun _ => 0) (sz' := fun p => 0 + (0 + (p.2.2.xs.map Lay.count).sum)) (f := _) (hf := rfl) ?_ ?_ ?_
   ·rfl
   ·exact (Rdr.int Try.underlying3 (by kernel_rfl)).c _
   refine RdrFC.cons (i := 1) (off := 1) (k := 1) (k' := 2) (enc := encI .i64) (enc' := fun p : Bool × SlV Lay => encB p.1 ++ encV p.2) (ok := fun (_ : World) (a : Int) => (Lit.int .i64 a).wf = true) (ok' := fun w p => True ∧ SlOk 4 encL LayR w p.2) (sz := fun _ => 0) (sz' := fun p => 0 + (p.2.xs.map Lay.count).sum) (f := _) (hf := rfl) ?_ ?_ ?_
   ·rfl
   ·exact (Rdr.int Try.underlying3 (by kernel_rfl)).c _
   refine RdrFC.cons (i := 2) (off := 2) (k := 1) (k' := 1) (enc := encB) (enc' := encV) (ok := fun _ _ => True) (ok' := SlOk 4 encL LayR) (sz := fun _ => 0) (sz' := fun v => (v.xs.map Lay.count).sum) (f := _) (hf := rfl) ?_ ?_ ?_
   ·rfl
   ·exact (Rdr.bool Try.underlying4 (by kernel_rfl)).c _
   refine RdrFC.one (f := _) (hf := rfl) ?_ ?_
   ·rfl
   exact S)
 exact ⟨len_encL, T.cells, fun {H en w n cs x} hz hx hm => by
  obtain ⟨⟨a, b, c, s⟩, rfl, ⟨h1, h2, -, h4⟩, h5⟩ := T.read hz hx hm
  refine ⟨.mk a b c s.A s.n s.c s.xs, rfl, .mk h1 h2 h4.sl h4.nil_ (Nat.le_trans h4.sl.cap h4.big) h4.all, ?_⟩
  rw [count_mk]
  dsimp only at h5
  omega⟩
theorem lay_all : ∀ Z, RdrC Z Try.prog 24 4 encL LayR Lay.count
 | 0 => ⟨len_encL, by kernel_rfl, fun h => absurd h (Nat.not_lt_zero _)⟩
 | Z + 1 => (lay_step (lay_all Z)).less (Nat.le_succ _)
theorem lay_at {w : World} {A : Option Addr} {n c : Nat} {ps : List Lay} (h : Sl 4 encL w A n c ps) {k : Nat} (hk : k < n) :
  ∃ b o m x y B l d qs, A = some ⟨b, o, none⟩ ∧ b < w.heap.size ∧ ps[k]? = some (.mk m x y B l d qs) ∧ w.cell? ⟨b, o + k * 4, none⟩ = some (.int .i64 m) ∧ w.cell? ⟨b, o + k * 4 + 1, none⟩ = some (.int .i64 x) ∧ w.cell? ⟨b, o + k * 4 + 2, none⟩ = some (.bool y) ∧ w.cell? ⟨b, o + k * 4 + 3, none⟩ = some (.slice B l d) := by
 obtain ⟨b, o, x, e, hb, hx, hc⟩ := h.at_ len_encL (by decide) k hk
 cases x with
 | mk m x y B l d qs =>
  exact ⟨b, o, m, x, y, B, l, d, qs, e, hb, hx, (by have h0 := hc 0 _ rfl; rw [Nat.add_zero] at h0; exact h0), hc 1 _ rfl, hc 2 _ rfl, hc 3 _ rfl⟩
theorem El_lay : El Try.prog 22 24 4 48 := El.of (z := .agg #[.int .i64 0, .int .i64 0, .bool false, .slice none 0 0]) Try.underlying22 (by kernel_rfl) rfl (by decide) (by decide)
theorem one_lay : ∀ (ls : List Lay), ∀ u ∈ ls.flatMap encL, u.oneCell' = true := fun ls u hu => by
 obtain ⟨l, _, h⟩ := List.mem_flatMap.1 hu
 cases l with
 | mk k n f A len cap ps =>
  simp [encL] at h
  rcases h with rfl | rfl | rfl | rfl <;> rfl
theorem sum_take_le : ∀ (l : List Nat) (k : Nat), (l.take k).sum ≤ l.sum
 | [], k => by simp
 | x :: r, 0 => by simp
 | x :: r, k + 1 => by
  have := sum_take_le r k
  simp only [List.take_succ_cons, List.sum_cons]
  omega
theorem Layouts_any {w : World} {l : Lay} (h : LayR w l) : l.count ≤ 1048576 → ∀ W, Q w W → Calls Try.prog 31 #[l.v] W fun e w' => ∃ g c, e = .returned (.slice (some ⟨g, 0, none⟩) l.count c) ∧ w'.ownsRow W.heap.size 24 4 (.slice (some ⟨g, 0, none⟩) l.count c) l.count (l.flat.flatMap encL) ∧ Q W w' := by
 induction h with
 | @mk k n f A len cap ps hk hn hsl hnil hcap hall ih =>
  intro hcnt W hqW
  have HSL := hide hsl
  have HIH := hide (fun p (hp : p ∈ ps) => ih p hp (by have h9 : p.count < (Lay.mk k n f A len cap ps).count := count_part hp; omega))
  have HQW := hide hqW
  have HPL := hide hsl.len
  have hlb : (len : Int) ≤ 140737488351232 := by have := hsl.cap; omega
  obtain ⟨l0, hl0⟩ : ∃ l0, Lay.mk k n f A len cap ps = l0 := ⟨_, rfl⟩
  have HFL := hide (flat_mk k n f A len cap ps)
  have HEN := hide (show [Value.int .i64 k, .int .i64 n, .bool f, .slice A len cap] = encL l0 by rw [← hl0]; rfl)
  have HCN : Hid (l0.count = (l0 :: ps.flatMap Lay.flat).length) := hide (by rw [← hl0]; unfold Lay.count; rw [flat_mk])
  rw [hl0] at hcnt HFL ⊢
  have HCT := hide hcnt
  have HFT : Hid (∀ j, (l0 :: (ps.take j).flatMap Lay.flat).length ≤ l0.count) := hide fun j => by
   rw [HCN.out, List.length_cons, List.length_cons, List.length_flatMap, List.length_flatMap, List.map_take]
   have := sum_take_le (ps.map fun a => a.flat.length) j
   omega
  show Calls _ _ #[l0.v] W _
  have hv : l0.v = .agg #[.int .i64 k, .int .i64 n, .bool f, .slice A len cap] := by rw [← hl0]; rfl
  rw [hv]
  obtain ⟨w1, hw1⟩ : ∃ w1, W.alloc (.cells #[.int .i64 k, .int .i64 n, .bool f, .slice A len cap] 24) = w1 := ⟨_, rfl⟩
  obtain ⟨hq1, hs1, hc⟩ := box1 hw1
  obtain ⟨w2, hw2⟩ : ∃ w2, w1.alloc (.cells #[.int .i64 k, .int .i64 n, .bool f, .slice A len cap] 24) = w2 := ⟨_, rfl⟩
  obtain ⟨hq2, hs2, -⟩ := box1 hw2
  have h2b : w2.heap[w1.heap.size]? = some (.cells #[.int .i64 k, .int .i64 n, .bool f, .slice A len cap] 24 (0, 0)) := by rw [← hw2]; exact heap_alloc_new w1 _
  have hown2 : w2.ownsRow w1.heap.size 24 4 (.slice (some ⟨w1.heap.size, 0, none⟩) 1 1) 1 [.int .i64 k, .int .i64 n, .bool f, .slice A len cap] := own_of_whole (xs := [.int .i64 k, .int .i64 n, .bool f, .slice A len cap]) h2b (Nat.le_refl _) rfl (by unfold maxLen; omega)
  have hlt : W.heap.size < w1.heap.size := by omega
  have K3 := hide (show w1.cell? ⟨W.heap.size, 3, none⟩ = some (.slice A len cap) from hc 3 _ rfl)
  have k0 := hc 0 _ rfl
  have k1 := hc 1 _ rfl
  have k2 := hc 2 _ rfl
  have k3 := hc 3 _ rfl
  have HSZ := hide hs1
  obtain ⟨v0, hv0⟩ : ∃ v0, Value.slice (some ⟨w1.heap.size, 0, none⟩) 1 1 = v0 := ⟨_, rfl⟩
  have HV0 := hide hv0
  have k3w2 : w2.cell? ⟨W.heap.size, 3, none⟩ = some (.slice A len cap) := (hq2.facts.1 _ 3 hlt).trans K3.out
  have HOW2 := hide hown2
  have HW1 := hide hw1
  have HW2 := hide hw2
  have HQ1 := hide hq1
  have HQ2 := hide hq2
  clear hk hn hsl hnil hcap hall ih hqW hl0 hcnt hv hw1 hw2 hc hq1 hq2 h2b hown2 hv0
  go_enter Try.func31, Try.ntmps31
  go_upto_region 1 with fail
  rw [HW1.out]
  go_upto_region 2 with fail
  rw [HW2.out]
  clear k0 k1 k2 k3
  go_wp2_with fail
  clear k3w2
  go_loopw [3, 4] (fun v3 vi wr => ∃ j : Nat, j ≤ len ∧ vi = .int .i64 j ∧ Q w1 wr ∧ wr.ownsRow w1.heap.size 24 4 v3 (l0 :: (ps.take j).flatMap Lay.flat).length ((l0 :: (ps.take j).flatMap Lay.flat).flatMap encL)) (fun _ vi _ => len - (intOf vi).toNat)
  case atStart => exact ⟨0, by omega, by go_num, HQ2.out, by
   have h9 := HOW2.out
   rw [HEN.out, HSZ.out] at h9
   rw [HSZ.out]
   simpa using h9⟩
  case round =>
   obtain ⟨j, hj, rfl, hq, hown⟩ := hrel
   obtain ⟨wx, rfl⟩ : ∃ wx : World, wx = wr := ⟨_, rfl⟩
   obtain ⟨F, hF⟩ : ∃ F, l0 :: (ps.take j).flatMap Lay.flat = F := ⟨_, rfl⟩
   rw [hF] at hown
   obtain ⟨N, hN⟩ : ∃ N, F.length = N := ⟨_, rfl⟩
   rw [hN] at hown
   have HFF := hide hF
   have HNN := hide hN
   have k3 := (hq.facts.1 _ 3 hlt).trans K3.out
   have HQ := hide hq
   have HOW := hide hown
   clear hF hN
   obtain ⟨V3, c3, e3, -⟩ := own_form hown
   subst e3
   by_cases hlt9 : j < len
   ·have hd1 : decide ((j : Int) < (len : Int)) = true := by simp; omega
    have hd0 : decide (j < len) = true := by simp; omega
    have hlti : (j : Int) < (len : Int) := by omega
    obtain ⟨b, o, m', x', y', B, l', d', qs, e, hb, hx, z0, z1, z2, z3⟩ := lay_at (HSL.out.up (HQW.out.trans (HQ1.out.trans hq))) hlt9
    cases e
    obtain ⟨p, hpe⟩ : ∃ p, Lay.mk m' x' y' B l' d' qs = p := ⟨_, rfl⟩
    have hpv : p.v = .agg #[.int .i64 m', .int .i64 x', .bool y', .slice B l' d'] := by rw [← hpe]; rfl
    rw [hpe] at hx
    have HC := hide (HIH.out p (List.mem_of_getElem? hx) wx (HQW.out.trans (HQ1.out.trans hq)))
    rw [hpv] at HC
    have HX := hide hx
    have HPS := hide (count_pos p)
    clear hx hq hj hown hpe hpv
    go_wp2_with fail
    refine HC.out.mono ?_
    rintro e w5 ⟨g5, c5, rfl, hown5, hq5⟩
    have HQ5 := hide (HQ.out.trans hq5)
    have HO5 := hide (own_q HOW.out hq5)
    obtain ⟨A5, c5', e5, -, -, -, hr5⟩ := own_form hown5
    cases e5
    have HR5 : Hid (Rd w5 w5.heap.size (some ⟨g5, 0, none⟩) (p.flat.flatMap encL)) := hide hr5
    have HFS : Hid (l0 :: (ps.take (j + 1)).flatMap Lay.flat = F ++ p.flat) := hide (by
     rw [← HFF.out, List.take_add_one, HX.out, List.flatMap_append]
     simp)
    have hle := HFT.out (j + 1)
    rw [HFS.out, List.length_append, HNN.out] at hle
    obtain ⟨M, hM⟩ : ∃ M, p.count = M := ⟨_, rfl⟩
    have hMl : p.flat.length = M := hM
    rw [hMl] at hle
    have HML := hide hMl
    have hle2 : N + M ≤ 1048576 := by have := HCT.out; omega
    have hpos := HPS.out
    rw [hM] at hpos ⊢
    clear hq5 hown5 hr5 z0 z1 z2 z3 k3 hle hM hMl
    go_wp2_with (at_builtin; go_loud (refine wpList_apps rfl El_lay _ _ rfl rfl HO5.out rfl (fun h => by cases h) ?_ HR5.out (one_lay _) ?_ ?_ ?_; (focus (rw [flatMap_length len_encL, HML.out])); (focus omega); (focus (exact HQ5.out.size)); intro v7 w7 hown7 hb7; have HO7 := hide hown7; have HB7 := hide (show Q w1 w7 from HQ5.out.below.trans hb7); clear hown7 hb7))
    go_roundw
    case rel => exact ⟨j + 1, by omega, by go_num, HB7.out, by
     rw [HFS.out, List.length_append, List.flatMap_append, HNN.out, HML.out]
     exact HO7.out⟩
    case measure => simp [intOf] <;> omega
   ·have hd1 : decide ((j : Int) < (len : Int)) = false := by simp; omega
    have hd0 : decide (j < len) = false := by simp; omega
    obtain rfl : j = len := by omega
    have hNc : N = l0.count := by
     rw [← HNN.out, ← HFF.out, List.take_of_length_le (by have := HPL.out; omega), HCN.out]
    obtain ⟨g9, c9, e9, -, -, -, -, -, -⟩ := own_at hown (by rw [hNc]; exact count_pos _)
    cases e9
    have HNC := hide hNc
    have HFE : Hid (F = l0.flat) := hide (by
     rw [← HFF.out, List.take_of_length_le (by have := HPL.out; omega)]
     exact HFL.out.symm)
    clear hq hown hNc
    go_wp2_with fail
    go_ret
    have h9 := own_lower HOW.out HQ1.out.size
    rw [HFE.out, HNC.out] at h9
    exact ⟨g9, _, by rw [HNC.out]; rfl, h9, HQ1.out.trans HQ.out⟩
theorem fold_take {α β : Type} (g : β → α → β) (a : β) {ps : List α} {j : Nat} {p : α} (h : ps[j]? = some p) : (ps.take (j + 1)).foldl g a = g ((ps.take j).foldl g a) p := by
 rw [List.take_add_one, h, List.foldl_append]
 rfl
theorem fold_takeM {α β γ : Type} (f : α → γ) (g : β → γ → β) (a : β) {ps : List α} {j : Nat} {p : α} (h : ps[j]? = some p) : ((ps.take (j + 1)).map f).foldl g a = g (((ps.take j).map f).foldl g a) (f p) := by
 rw [List.take_add_one, h, List.map_append, List.foldl_append]
 rfl
theorem Deep_any {w : World} {l : Lay} (h : LayR w l) : l.count ≤ 1048576 → ∀ W, Q w W → Calls Try.prog 105 #[l.v] W (R1 W (.int .i64 (l.deep : Nat))) := by
 induction h with
 | @mk k n f A len cap ps hk hn hsl hnil hcap hall ih =>
  intro hcnt
  intro W hqW
  have HIH := hide (fun p (hp : p ∈ ps) => ih p hp (by have h9 : p.count < (Lay.mk k n f A len cap ps).count := count_part hp; omega))
  have HDE := hide (fun p (hp : p ∈ ps) => deep_le (hall p hp))
  have HCN := hide (fun p (hp : p ∈ ps) => show p.count < (Lay.mk k n f A len cap ps).count from count_part hp)
  have HCT := hide hcnt
  have HDM := hide (deep_mk k n f A len cap ps)
  rw [HDM.out]
  clear hcnt
  unfold R1
  have HSL := hide hsl
  have HQW := hide hqW
  have HPL := hide hsl.len
  have hlb : (len : Int) ≤ 140737488351232 := by have := hsl.cap; omega
  show Calls _ _ #[.agg #[.int .i64 k, .int .i64 n, .bool f, .slice A len cap]] W _
  obtain ⟨w1, hw1⟩ : ∃ w1, W.alloc (.cells #[.int .i64 k, .int .i64 n, .bool f, .slice A len cap] 24) = w1 := ⟨_, rfl⟩
  obtain ⟨hq1, hs1, hc⟩ := box1 hw1
  have hlt : W.heap.size < w1.heap.size := by omega
  have K0 := hide (show w1.cell? ⟨W.heap.size, 0, none⟩ = some (.int .i64 k) from hc 0 _ rfl)
  have K1 := hide (show w1.cell? ⟨W.heap.size, 1, none⟩ = some (.int .i64 n) from hc 1 _ rfl)
  have K2 := hide (show w1.cell? ⟨W.heap.size, 2, none⟩ = some (.bool f) from hc 2 _ rfl)
  have K3 := hide (show w1.cell? ⟨W.heap.size, 3, none⟩ = some (.slice A len cap) from hc 3 _ rfl)
  have HW1 := hide hw1
  have HQ1 := hide hq1
  clear hk hn hsl hnil hcap hall ih hqW hw1 hc hq1 hs1
  go_enter Try.func105, Try.ntmps105
  go_upto_region 1 with fail
  rw [HW1.out]
  have k3 := K3.out
  go_wp2_with fail
  clear k3
  go_loopw [3, 4] (fun v3 vi wr => ∃ j : Nat, j ≤ len ∧ vi = .int .i64 j ∧ v3 = .int .i64 ((((ps.take j).map Lay.deep).foldl max 0 : Nat) : Int) ∧ Q w1 wr) (fun _ vi _ => len - (intOf vi).toNat)
  case atStart => exact ⟨0, by omega, by go_num, by simp, Q.refl _⟩
  case round =>
   obtain ⟨j, hj, rfl, rfl, hq⟩ := hrel
   have k3 := (hq.facts.1 _ 3 hlt).trans K3.out
   have HQ := hide hq
   by_cases hlt9 : j < len
   ·have hd1 : decide ((j : Int) < (len : Int)) = true := by simp; omega
    have hd0 : decide (j < len) = true := by simp; omega
    have hlti : (j : Int) < (len : Int) := by omega
    obtain ⟨b, o, m', x', y', B, l', d', qs, e, hb, hx, z0, z1, z2, z3⟩ := lay_at (HSL.out.up (HQW.out.trans (HQ1.out.trans hq))) hlt9
    cases e
    obtain ⟨p, hpe⟩ : ∃ p, Lay.mk m' x' y' B l' d' qs = p := ⟨_, rfl⟩
    have hpv : p.v = .agg #[.int .i64 m', .int .i64 x', .bool y', .slice B l' d'] := by rw [← hpe]; rfl
    rw [hpe] at hx
    have HPM := hide (List.mem_of_getElem? hx)
    have HX := hide hx
    have HC := hide (HIH.out p (List.mem_of_getElem? hx) wr (HQW.out.trans (HQ1.out.trans hq)))
    rw [hpv] at HC
    clear hx hpe hpv
    obtain ⟨acc, hacc⟩ : ∃ acc, ((ps.take j).map Lay.deep).foldl max 0 = acc := ⟨_, rfl⟩
    obtain ⟨dp, hdp⟩ : ∃ dp, p.deep = dp := ⟨_, rfl⟩
    have hab : acc ≤ 1048576 := by
     rw [← hacc]
     refine foldl_max_le (by omega) fun x hx => ?_
     obtain ⟨q, hq9, rfl⟩ := List.mem_map.1 hx
     have h1 := HDE.out q (List.mem_of_mem_take hq9)
     have h2 := HCN.out q (List.mem_of_mem_take hq9)
     have h3 := HCT.out
     omega
    have hdb : dp ≤ 1048576 := by
     rw [← hdp]
     have h1 := HDE.out p HPM.out
     have h2 := HCN.out p HPM.out
     have h3 := HCT.out
     omega
    have HST : Hid (((ps.take (j + 1)).map Lay.deep).foldl max 0 = max acc dp) := hide (by rw [fold_takeM Lay.deep max 0 HX.out, hacc, hdp])
    rw [hdp] at HC
    rw [hacc]
    clear hacc hdp hq
    go_wp2_with fail
    refine HC.out.mono ?_
    rintro e w5 ⟨rfl, hq5⟩
    have HQ5 := hide (HQ.out.trans hq5)
    clear hq5 z0 z1 z2 z3 k3
    go_wp2_with fail
    go_roundw
    case rel => exact ⟨j + 1, by omega, by go_num, by first | (rw [HST.out]; done) | (rw [HST.out]; congr 1; done) | (rw [HST.out]; congr 1; omega), HQ5.out⟩
    case measure => simp [intOf] <;> omega
   ·have hd1 : decide ((j : Int) < (len : Int)) = false := by simp; omega
    have hd0 : decide (j < len) = false := by simp; omega
    obtain rfl : j = len := by omega
    have he : ps.take j = ps := List.take_of_length_le (by have := HPL.out; omega)
    rw [he]
    obtain ⟨acc, hacc⟩ : ∃ acc, (ps.map Lay.deep).foldl max 0 = acc := ⟨_, rfl⟩
    have hab : acc ≤ 1048576 := by
     rw [← hacc]
     refine foldl_max_le (by omega) fun x hx => ?_
     obtain ⟨q, hq9, rfl⟩ := List.mem_map.1 hx
     have h1 := HDE.out q hq9
     have h2 := HCN.out q hq9
     have h3 := HCT.out
     omega
    have habi : (acc : Int) ≤ 1048576 := by omega
    have HAC := hide hacc
    rw [hacc]
    clear hacc he hq
    go_wp2_with fail
    go_ret
    exact ⟨by rw [HAC.out]; simp; omega, HQ1.out.trans HQ.out⟩
theorem bitsOf_any {w : World} {l : Lay} (h : LayR w l) : ∀ W, Q w W → Calls Try.prog 110 #[l.v] W (R1 W (.int .i64 (bitsL l))) := by
 cases h with
 | @mk k n f A len cap ps hk hn hsl hnil hcap hall =>
  intro W hqW
  unfold R1
  have HSL := hide hsl
  have HQW := hide hqW
  have HPL := hide hsl.len
  have hlb : (len : Int) ≤ 140737488351232 := by have := hsl.cap; omega
  show Calls _ _ #[.agg #[.int .i64 k, .int .i64 n, .bool f, .slice A len cap]] W _
  obtain ⟨w1, hw1⟩ : ∃ w1, W.alloc (.cells #[.int .i64 k, .int .i64 n, .bool f, .slice A len cap] 24) = w1 := ⟨_, rfl⟩
  obtain ⟨hq1, hs1, hc⟩ := box1 hw1
  have hlt : W.heap.size < w1.heap.size := by omega
  have K0 := hide (show w1.cell? ⟨W.heap.size, 0, none⟩ = some (.int .i64 k) from hc 0 _ rfl)
  have K1 := hide (show w1.cell? ⟨W.heap.size, 1, none⟩ = some (.int .i64 n) from hc 1 _ rfl)
  have K2 := hide (show w1.cell? ⟨W.heap.size, 2, none⟩ = some (.bool f) from hc 2 _ rfl)
  have K3 := hide (show w1.cell? ⟨W.heap.size, 3, none⟩ = some (.slice A len cap) from hc 3 _ rfl)
  have HW1 := hide hw1
  have HQ1 := hide hq1
  clear hk hn hsl hnil hcap hall  hqW hw1 hc hq1 hs1
  go_enter Try.func110, Try.ntmps110
  go_upto_region 1 with fail
  rw [HW1.out]
  have k0 := K0.out
  have k1 := K1.out
  by_cases h1 : k = 1
  ·subst h1
   go_wp2_with fail
   go_ret
   exact ⟨rfl, HQ1.out⟩
  ·have d1 : (k == 1) = false := by simp [h1]
   by_cases h2 : k = 2
   ·subst h2
    go_wp2_with fail
    go_ret
    exact ⟨rfl, HQ1.out⟩
   ·have d2 : (k == 2) = false := by simp [h2]
    have HV := hide (show bitsL (.mk k n f A len cap ps) = 0 from by show (if k = 1 then (1 : Int) else if k = 2 then max n 0 else 0) = 0; rw [if_neg h1, if_neg h2])
    clear h1 h2
    go_wp2_with fail
    go_ret
    exact ⟨by rw [HV.out]; rfl, HQ1.out⟩
theorem bits_nn (l : Lay) : 0 ≤ bitsL l := by
 unfold bitsL
 split
 ·omega
 ·split <;> omega
theorem pack_fold (ps : List Lay) : 0 ≤ ps.foldl (fun s p => min (s + min (bitsL p) 1000) 100000) (0 : Int) ∧ ps.foldl (fun s p => min (s + min (bitsL p) 1000) 100000) (0 : Int) ≤ 100000 := go ps 0 (by omega) (by omega)
where
 go : ∀ (ps : List Lay) (a : Int), 0 ≤ a → a ≤ 100000 → 0 ≤ ps.foldl (fun s p => min (s + min (bitsL p) 1000) 100000) a ∧ ps.foldl (fun s p => min (s + min (bitsL p) 1000) 100000) a ≤ 100000
 | [], a, h, h2 => ⟨h, h2⟩
 | p :: r, a, h, h2 => by
  rw [List.foldl_cons]
  have := bits_nn p
  exact go r _ (by omega) (by omega)
theorem packed_any {w : World} {l : Lay} (h : LayR w l) : ∀ W, Q w W → Calls Try.prog 80 #[l.v] W (R1 W (.int .i64 (packR l))) := by
 cases h with
 | @mk k n f A len cap ps hk hn hsl hnil hcap hall =>
  intro W hqW
  have HBI := hide (fun p (hp : p ∈ ps) W (hW : Q w W) => bitsOf_any (hall p hp) W hW)
  have HPK := hide (show packR (.mk k n f A len cap ps) = ps.foldl (fun s p => min (s + min (bitsL p) 1000) 100000) 0 from rfl)
  rw [HPK.out]
  unfold R1
  have HSL := hide hsl
  have HQW := hide hqW
  have HPL := hide hsl.len
  have hlb : (len : Int) ≤ 140737488351232 := by have := hsl.cap; omega
  show Calls _ _ #[.agg #[.int .i64 k, .int .i64 n, .bool f, .slice A len cap]] W _
  obtain ⟨w1, hw1⟩ : ∃ w1, W.alloc (.cells #[.int .i64 k, .int .i64 n, .bool f, .slice A len cap] 24) = w1 := ⟨_, rfl⟩
  obtain ⟨hq1, hs1, hc⟩ := box1 hw1
  have hlt : W.heap.size < w1.heap.size := by omega
  have K0 := hide (show w1.cell? ⟨W.heap.size, 0, none⟩ = some (.int .i64 k) from hc 0 _ rfl)
  have K1 := hide (show w1.cell? ⟨W.heap.size, 1, none⟩ = some (.int .i64 n) from hc 1 _ rfl)
  have K2 := hide (show w1.cell? ⟨W.heap.size, 2, none⟩ = some (.bool f) from hc 2 _ rfl)
  have K3 := hide (show w1.cell? ⟨W.heap.size, 3, none⟩ = some (.slice A len cap) from hc 3 _ rfl)
  have HW1 := hide hw1
  have HQ1 := hide hq1
  clear hk hn hsl hnil hcap hall  hqW hw1 hc hq1 hs1
  go_enter Try.func80, Try.ntmps80
  go_upto_region 1 with fail
  rw [HW1.out]
  have k3 := K3.out
  go_wp2_with fail
  clear k3
  go_loopw [3, 4] (fun v3 vi wr => ∃ j : Nat, j ≤ len ∧ vi = .int .i64 j ∧ v3 = .int .i64 ((ps.take j).foldl (fun s p => min (s + min (bitsL p) 1000) 100000) (0 : Int)) ∧ Q w1 wr) (fun _ vi _ => len - (intOf vi).toNat)
  case atStart => exact ⟨0, by omega, by go_num, by simp, Q.refl _⟩
  case round =>
   obtain ⟨j, hj, rfl, rfl, hq⟩ := hrel
   have k3 := (hq.facts.1 _ 3 hlt).trans K3.out
   have HQ := hide hq
   by_cases hlt9 : j < len
   ·have hd1 : decide ((j : Int) < (len : Int)) = true := by simp; omega
    have hd0 : decide (j < len) = true := by simp; omega
    have hlti : (j : Int) < (len : Int) := by omega
    obtain ⟨b, o, m', x', y', B, l', d', qs, e, hb, hx, z0, z1, z2, z3⟩ := lay_at (HSL.out.up (HQW.out.trans (HQ1.out.trans hq))) hlt9
    cases e
    obtain ⟨p, hpe⟩ : ∃ p, Lay.mk m' x' y' B l' d' qs = p := ⟨_, rfl⟩
    have hpv : p.v = .agg #[.int .i64 m', .int .i64 x', .bool y', .slice B l' d'] := by rw [← hpe]; rfl
    rw [hpe] at hx
    have HPM := hide (List.mem_of_getElem? hx)
    have HX := hide hx
    have HC := hide (HBI.out p (List.mem_of_getElem? hx) wr (HQW.out.trans (HQ1.out.trans hq)))
    rw [hpv] at HC
    clear hx hpe hpv
    obtain ⟨hb0, hb1⟩ := pack_fold (ps.take j)
    have hnn := bits_nn p
    have hst := fold_take (fun (s : Int) p => min (s + min (bitsL p) 1000) 100000) (0 : Int) HX.out
    try dsimp only at hst
    obtain ⟨acc, hacc⟩ : ∃ acc, (ps.take j).foldl (fun s p => min (s + min (bitsL p) 1000) 100000) (0 : Int) = acc := ⟨_, rfl⟩
    obtain ⟨bp, hbp⟩ : ∃ bp, bitsL p = bp := ⟨_, rfl⟩
    rw [hacc] at hb0 hb1 hst ⊢
    rw [hbp] at hnn hst HC
    have HST := hide hst
    have HNN := hide hnn
    clear hacc hbp hst hnn hq
    go_wp2_with fail
    refine HC.out.mono ?_
    rintro e w5 ⟨rfl, hq5⟩
    have HQ5 := hide (HQ.out.trans hq5)
    have hw : IntKind.i64.wrap (acc + min bp 1000) = acc + min bp 1000 := by rw [IntKind.wrap_i64]; have := HNN.out; omega
    have hnn := HNN.out
    clear hq5 z0 z1 z2 z3 k3
    go_wp2_with fail
    all_goals
     go_roundw
     case rel => exact ⟨j + 1, by omega, by go_num, by first | (rw [HST.out]; done) | (rw [HST.out]; congr 1; done) | (rw [HST.out]; congr 1; omega), HQ5.out⟩
     case measure => simp [intOf] <;> omega
   ·have hd1 : decide ((j : Int) < (len : Int)) = false := by simp; omega
    have hd0 : decide (j < len) = false := by simp; omega
    obtain rfl : j = len := by omega
    have he : ps.take j = ps := List.take_of_length_le (by have := HPL.out; omega)
    rw [he]
    clear he hq
    go_wp2_with fail
    go_ret
    exact ⟨rfl, HQ1.out.trans HQ.out⟩
theorem cells_any {w : World} {l : Lay} (h : LayR w l) : ∀ W, Q w W → Calls Try.prog 106 #[l.v] W (R1 W (.int .i64 l.cells)) := by
 induction h with
 | @mk k n f A len cap ps hk hn hsl hnil hcap hall ih =>
  intro W hqW
  have HIH := hide ih
  have HBD := hide (fun (qs : List Lay) (hqs : ∀ p ∈ qs, p ∈ ps) => foldl_cap (l := qs.map Lay.cells) (a := 0) (by omega) (by omega) fun x hx => by
   obtain ⟨q, hq9, rfl⟩ := List.mem_map.1 hx
   exact (cells_bd (hall q (hqs q hq9))).1)
  have HBP := hide (fun p (hp : p ∈ ps) => cells_bd (hall p hp))
  have HCM := hide (cells_mk k n f A len cap ps)
  rw [HCM.out]
  unfold R1
  have HSL := hide hsl
  have HQW := hide hqW
  have HPL := hide hsl.len
  have hlb : (len : Int) ≤ 140737488351232 := by have := hsl.cap; omega
  show Calls _ _ #[.agg #[.int .i64 k, .int .i64 n, .bool f, .slice A len cap]] W _
  obtain ⟨w1, hw1⟩ : ∃ w1, W.alloc (.cells #[.int .i64 k, .int .i64 n, .bool f, .slice A len cap] 24) = w1 := ⟨_, rfl⟩
  obtain ⟨hq1, hs1, hc⟩ := box1 hw1
  have hlt : W.heap.size < w1.heap.size := by omega
  have K0 := hide (show w1.cell? ⟨W.heap.size, 0, none⟩ = some (.int .i64 k) from hc 0 _ rfl)
  have K1 := hide (show w1.cell? ⟨W.heap.size, 1, none⟩ = some (.int .i64 n) from hc 1 _ rfl)
  have K2 := hide (show w1.cell? ⟨W.heap.size, 2, none⟩ = some (.bool f) from hc 2 _ rfl)
  have K3 := hide (show w1.cell? ⟨W.heap.size, 3, none⟩ = some (.slice A len cap) from hc 3 _ rfl)
  have HW1 := hide hw1
  have HQ1 := hide hq1
  clear hk hn hsl hnil hcap hall ih hqW hw1 hc hq1 hs1
  go_enter Try.func106, Try.ntmps106
  go_upto_region 1 with fail
  rw [HW1.out]
  have k3 := K3.out
  go_wp2_with fail
  clear k3
  go_loopw [3, 4] (fun v3 vi wr => ∃ j : Nat, j ≤ len ∧ vi = .int .i64 j ∧ v3 = .int .i64 (((ps.take j).map Lay.cells).foldl (fun s c => min (s + c) 100000) (0 : Int)) ∧ Q w1 wr) (fun _ vi _ => len - (intOf vi).toNat)
  case atStart => exact ⟨0, by omega, by go_num, by simp, Q.refl _⟩
  case round =>
   obtain ⟨j, hj, rfl, rfl, hq⟩ := hrel
   have k3 := (hq.facts.1 _ 3 hlt).trans K3.out
   have HQ := hide hq
   by_cases hlt9 : j < len
   ·have hd1 : decide ((j : Int) < (len : Int)) = true := by simp; omega
    have hd0 : decide (j < len) = true := by simp; omega
    have hlti : (j : Int) < (len : Int) := by omega
    obtain ⟨b, o, m', x', y', B, l', d', qs, e, hb, hx, z0, z1, z2, z3⟩ := lay_at (HSL.out.up (HQW.out.trans (HQ1.out.trans hq))) hlt9
    cases e
    obtain ⟨p, hpe⟩ : ∃ p, Lay.mk m' x' y' B l' d' qs = p := ⟨_, rfl⟩
    have hpv : p.v = .agg #[.int .i64 m', .int .i64 x', .bool y', .slice B l' d'] := by rw [← hpe]; rfl
    rw [hpe] at hx
    have HPM := hide (List.mem_of_getElem? hx)
    have HX := hide hx
    have HC := hide (HIH.out p (List.mem_of_getElem? hx) wr (HQW.out.trans (HQ1.out.trans hq)))
    rw [hpv] at HC
    clear hx hpe hpv
    obtain ⟨hb0, hb1⟩ := HBD.out (ps.take j) (fun q hq9 => List.mem_of_mem_take hq9)
    obtain ⟨hc0, hc1⟩ := HBP.out p HPM.out
    have hst := fold_takeM Lay.cells (fun (s : Int) c => min (s + c) 100000) (0 : Int) HX.out
    try dsimp only at hst
    obtain ⟨acc, hacc⟩ : ∃ acc, ((ps.take j).map Lay.cells).foldl (fun s c => min (s + c) 100000) (0 : Int) = acc := ⟨_, rfl⟩
    obtain ⟨cp, hcp⟩ : ∃ cp, p.cells = cp := ⟨_, rfl⟩
    rw [hacc] at hb0 hb1 hst ⊢
    rw [hcp] at hc0 hc1 hst HC
    have HST := hide hst
    clear hacc hcp hst hq
    go_wp2_with fail
    refine HC.out.mono ?_
    rintro e w5 ⟨rfl, hq5⟩
    have HQ5 := hide (HQ.out.trans hq5)
    clear hq5 z0 z1 z2 z3 k3
    go_wp2_with fail
    all_goals
     go_roundw
     case rel => exact ⟨j + 1, by omega, by go_num, by first | (rw [HST.out]; done) | (rw [HST.out]; congr 1; done) | (rw [HST.out]; congr 1; omega), HQ5.out⟩
     case measure => simp [intOf] <;> omega
   ·have hd1 : decide ((j : Int) < (len : Int)) = false := by simp; omega
    have hd0 : decide (j < len) = false := by simp; omega
    obtain rfl : j = len := by omega
    have he : ps.take j = ps := List.take_of_length_le (by have := HPL.out; omega)
    rw [he]
    obtain ⟨hb0, hb1⟩ := HBD.out ps (fun q hq9 => hq9)
    obtain ⟨acc, hacc⟩ : ∃ acc, (ps.map Lay.cells).foldl (fun s c => min (s + c) 100000) (0 : Int) = acc := ⟨_, rfl⟩
    rw [hacc] at hb0 hb1
    have HAC := hide hacc
    rw [hacc]
    have k0 := (hq.facts.1 _ 0 hlt).trans K0.out
    have k1 := (hq.facts.1 _ 1 hlt).trans K1.out
    clear hacc he hq
    by_cases h5 : k = 5
    ·subst h5
     obtain ⟨mx, hmx⟩ : ∃ mx, min (max n 0) 100000 = mx := ⟨_, rfl⟩
     have hm0 : 0 ≤ mx := by omega
     have hm1 : mx ≤ 100000 := by omega
     obtain ⟨pr, hpr⟩ : ∃ pr, mx * acc = pr := ⟨_, rfl⟩
     have hp0 : 0 ≤ pr := by rw [← hpr]; exact Int.mul_nonneg hm0 hb0
     have hp1 : pr ≤ 10000000000 := by
      rw [← hpr]
      calc mx * acc ≤ 100000 * acc := Int.mul_le_mul_of_nonneg_right hm1 hb0
       _ ≤ 100000 * 100000 := Int.mul_le_mul_of_nonneg_left hb1 (by omega)
       _ = 10000000000 := by decide
     have HPV := hide (show (if (5 : Int) = 5 then min (min (max n 0) 100000 * acc + 1) 100000 else min (acc + 1) 100000) = min (pr + 1) 100000 by rw [if_pos rfl, hmx, hpr])
     go_wp2_with fail
     all_goals
      go_ret
      exact ⟨by first | (rw [HAC.out]; done) | (rw [HAC.out]; rfl) | (rw [HAC.out, hpr]; rfl) | (rw [HAC.out, HPV.out]; rfl), HQ1.out.trans HQ.out⟩
    ·have d5 : (k == 5) = false := by simp [h5]
     have HPV := hide (show (if k = 5 then min (min (max n 0) 100000 * acc + 1) 100000 else min (acc + 1) 100000) = min (acc + 1) 100000 by rw [if_neg h5])
     go_wp2_with fail
     all_goals
      go_ret
      exact ⟨by first | (rw [HAC.out]; done) | (rw [HAC.out]; rfl) | (rw [HAC.out, hpr]; rfl) | (rw [HAC.out, HPV.out]; rfl), HQ1.out.trans HQ.out⟩
end Go.Proofs.Ytbgbalfhbficaaa
