/- The walk of package lex's tokens: the iterator's contract. Conditions: the text is in its box. -/
import Derived.Test.YtofigpjabamnhaaDoorLexC
import Derived.RangeFuncNested
import Derived.RangeFuncBound
import Derived.RangeFuncCalls
import Derived.RangeFuncLeaves
import Derived.Shelf.Abstract
import Derived.Shelf.RegionOpen
import Derived.OwnWalkIn
import Derived.TacticsInMore
import Derived.LoopNIn
import Derived.LoopIn
namespace Go.Proofs.YtofigpjabamnhaaDoor
open Go.RowKit Go.Shelf LX
set_option linter.unusedVariables false
attribute [local go_sem] Oper.semAt_some
/-- what a round that goes on keeps: what lay below n₀, the boxes of strings, the tables -/
def KT (n₀ : Nat) (W W' : World) : Prop := Below n₀ W W' ∧ ∀ (b : Nat) (cs : Array Value) (t : TypeId) (fr : Nat × Nat), (t = 9 ∨ t = 25) → W.heap[b]? = some (.cells cs t fr) → W'.heap[b]? = some (.cells cs t fr)
theorem KT.refl (n₀ : Nat) (W : World) : KT n₀ W W := ⟨Below.refl _ _, fun _ _ _ _ _ h => h⟩
theorem KT.trans {n₀ : Nat} {A B C : World} (h : KT n₀ A B) (k : KT n₀ B C) : KT n₀ A C := ⟨h.1.trans k.1, fun b cs t fr ht hb => k.2 b cs t fr ht (h.2 b cs t fr ht hb)⟩
theorem Q.row {W W' : World} (h : Q W W') : W.grownBy W' none := ⟨h.below.os, h.below.tape, h.below.output, h.size, fun i hi _ => h.below.block i hi⟩
theorem Q.heapAt {W W' : World} (h : Q W W') {b : Nat} {o : Obj} (hb : W.heap[b]? = some o) : W'.heap[b]? = some o := (h.below.block b (Array.getElem?_eq_some_iff.1 hb).1).trans hb
def seqL (r : List Tok × Option Nat) : List Tok := r.1 ++ (match r.2 with | some p => [(0, p, 0)] | none => [])
theorem firstL_zero {l : List Nat} (h : (firstL l).2 = 0) : (firstL l).1 = 0 := by
  rcases l with _ | ⟨c, r⟩
  · rfl
  · unfold firstL at h ⊢
    dsimp only at h ⊢
    split
    · rfl
    · rename_i h2
      rw [if_neg h2] at h
      split
      · rename_i h3
        rw [if_pos h3] at h
        have := runL_pos r (c := c) (by omega)
        simp only at h
        omega
      · rename_i h3
        rw [if_neg h3] at h
        split
        · rename_i h4
          rw [if_pos h4] at h
          simp only at h
          omega
        · rename_i h4
          rw [if_neg h4] at h
          split
          · rename_i h5
            rw [if_pos h5] at h
            simp at h
          · rename_i h5
            rw [if_neg h5] at h
            split
            · rename_i h6
              rw [if_pos h6] at h
              simp at h
            · rfl
theorem abides_q {β : Type} {B : Nat} {J : β → World → Prop} (h : AbidesFrom B J) {s : β} {W W' : World} (hs : J s W) (hq : Q W W') : J s W' := h s W W' none hs hq.row (fun r e => by cases e)
theorem tab_of_heap {W : World} {b : Nat} {fr : Nat × Nat} (h : W.heap[b]? = some (.cells (clV clsN) 25 fr)) : Tab W b :=
  ⟨(Array.getElem?_eq_some_iff.1 h).1, fun i hi => by rw [cell_of_row _ _ _ _ _ _ h]; exact clV_get _ _ hi⟩
theorem wpListIn_store_row {F : Fence} {n : Nat} {P : Program} {ops : Array Oper} {rest : List Oper} {o : Oper} {a : Act} {w : World} {Q : Exit → Act → World → Prop} (hgd : o.guard = none) (ty : TypeId) (x y : Operand) (ho : o.op = .store ty x y)
    (g : Nat) (cells : Array Value) (hx : a.eval x = .pointer (some ⟨g, 0, none⟩)) (hy : a.eval y = .agg cells)
    (t : TypeId) (old : Array Value) (hg : w.heap[g]? = some (.cells old t (0, 0))) (hi : (P.info? ty).map (·.size) = some cells.size)
    (hold : old.size = cells.size) (h1 : cells.all (·.oneCell') = true)
    (h : wpListIn F n P ops Q rest (a.put o.dst undef) (w.setRow g cells)) : wpListIn F n P ops Q (o :: rest) a w := by
  refine wpListIn_plain hgd fun K hK => ?_
  unfold Oper.wpIn
  refine ⟨by simp [Oper.about, ho], ?_⟩
  rw [Oper.semAt_plain F _ _ (by rw [ho]; intro c hc; cases hc)]
  unfold execOp
  simp only [ho, hx, hy, Instr.storeAt, Instr.sureAddr, Sem.run_bind, Sem.run_pure, Result.andThen_ok, run_storeVar_row w g t ty old cells hg hi hold h1]
  exact hK _ _ h
set_option maxRecDepth 100000 in
set_option maxHeartbeats 2000000 in
theorem tok1_in (n : Nat) (hn : 1 ≤ n) (l Bn n₀ : Nat) (s : ByteArray) (hs : s.size ≤ 1000000000000) (J Jx : List Tok → World → Prop)
    (hY : ∀ (pre : List Tok) (k p m : Nat) (W : World), J pre W → pre.length < s.size + 1 → YieldAt Fence.wide (n - 1) Tryd.prog l #[.agg #[.int .i64 (k : Nat), .int .i64 (p : Nat), .string (s.extract p (p + m))]] W fun e W' =>
      (e = .returned (.bool true) ∧ J (pre ++ [(k, p, m)]) W' ∧ KT n₀ W W') ∨ (e = .returned (.bool false) ∧ Jx (pre ++ [(k, p, m)]) W'))
    (W : World) (hJ : AbidesFrom W.heap.size J) (hBn : W.heap[Bn]? = some (.cells #[.string s] 9 (0, 0))) (h0 : J [] W) :
    CallsIn Fence.wide n Tryd.prog 23 #[.func (.yield l) #[] #[], .pointer (some ⟨Bn, 0, none⟩)] W fun e W' => (∃ v, e = .returned v) ∧
      ((∃ ys, ys = seqL (toksF (nat s)) ∧ J ys W') ∨ (∃ pre, pre <+: seqL (toksF (nat s)) ∧ Jx pre W')) := by
  have HY := hide hY
  have HJ := hide hJ
  have HB := hide hBn
  clear hY hJ hBn
  have hzv := zvD
  have hzs := zsD
  have hzn := znD
  obtain ⟨zc, hzc⟩ : ∃ zc, zcD = zc := ⟨_, rfl⟩
  rw [hzc] at hzs hzn
  simp only [hzc] at hzv
  clear hzc
  have HZS' := hide hzs
  refine callsIn_of_wp Tryd.func23 rfl trivial ?_ rfl
  simp only [Tryd.ntmps23, List.size_toArray, List.length_cons, List.length_nil, Nat.reduceAdd, Nat.reduceSub, Array.replicate_succ, Array.replicate_zero, List.push_toArray, List.append_toArray, List.nil_append, List.cons_append]
  gi_wp2_with fail
  refine ⟨trivial, ?_⟩
  refine (callsIn_wide.2 (classes_any _)).mono ?_
  rintro e w1 ⟨rfl, hq1⟩
  have hz := heap_alloc_new w1 (.cells zc 25)
  have HZ := hide hz
  have hsz : zc.size = (clV clsN).size := by rw [HZS'.out]; simp [clV]
  have HSZ := hide hsz
  clear hz hsz
  gi_wp2_with (refine wpListIn_store_row (o := ⟨none, .store 25 (.tmp 3) (.tmp 7), _, _, _, _⟩) ?_ 25 (.tmp 3) (.tmp 7) ?_ w1.heap.size (clV clsN) ?_ ?_ 25 zc ?_ ?_ ?_ ?_ ?_; rfl; rfl; rfl; rfl; exact HZ.out; exact clV_info; exact HSZ.out; exact clV_one)
  have hq2 : Q W ((w1.alloc (.cells zc 25)).setRow w1.heap.size (clV clsN)) := Q.setRow (hq1.alloc _) hq1.size _
  have ht2 := setRow_heap (w1.alloc (.cells zc 25)) w1.heap.size _ (clV clsN) _ _ HZ.out
  have hb2 := hq2.heapAt HB.out
  have hj2 := abides_q HJ.out h0 hq2
  generalize (w1.alloc (.cells zc 25)).setRow w1.heap.size (clV clsN) = w2 at *
  generalize w1.heap.size = bt at *
  gi_loopw [4] (fun v wr => ∃ (pre : List Tok) (k f : Nat), v = .int .i64 (k : Nat) ∧ k ≤ s.size ∧ seqL (toksF (nat s)) = pre ++ seqL (toks f ((nat s).drop k) k) ∧ s.size - k < f ∧ pre.length ≤ k ∧ J pre wr ∧
      wr.heap[bt]? = some (.cells (clV clsN) 25 (0, 0)) ∧ wr.heap[Bn]? = some (.cells #[.string s] 9 (0, 0))) (fun v _ => s.size - (intOf v).toNat)
  case atStart => exact ⟨[], 0, s.size + 1, by go_num, by omega, by rw [List.drop_zero]; unfold toksF; rw [nat_length]; rfl, by omega, by simp, hj2, ht2, hb2⟩
  case round =>
    obtain ⟨pre, k, f, rfl, hk, hx, hf, hpl, hj, ht, hb⟩ := hrel
    have hki : (k : Int) ≤ (s.size : Int) := by omega
    have hsi : (s.size : Int) ≤ 1000000000000 := by omega
    have hcs : wr.cell? ⟨Bn, 0, none⟩ = some (.string s) := by rw [cell_of_row _ _ _ _ _ _ hb]; rfl
    have hdl : ((nat s).drop k).length = s.size - k := by rw [List.length_drop, nat_length]
    have HX := hide hx
    have HDL := hide hdl
    have HT := hide ht
    have HBB := hide hb
    clear hx hdl ht hb hj2 ht2 hb2
    by_cases hlt : k < s.size
    · have hg := nat_get s k hlt
      have hg0 : ((nat s).drop k).getD 0 0 = s[k].toNat := by rw [List.getD_eq_getElem?_getD, List.getElem?_drop, Nat.add_zero, hg]; rfl
      have h256 : s[k].toNat < 256 := s[k].toNat_lt
      have hTk := (tab_of_heap HT.out).2 _ h256
      have hlti : (k : Int) < (s.size : Int) := by omega
      have hd0 : decide (k < s.size) = true := by simpa using hlt
      obtain ⟨c, hc⟩ : ∃ c, clsN s[k].toNat = c := ⟨_, rfl⟩
      rw [hc] at hTk
      have HC := hide hc
      have HG0 := hide hg0
      clear hg hg0 hc
      by_cases hbl : c = 1
      · subst hbl
        have hst := toks_blank (f := f) (l := (nat s).drop k) (p := k) (by rw [HDL.out]; omega) (by rw [HDL.out]; omega) (by rw [HG0.out]; exact HC.out)
        rw [List.drop_drop] at hst
        have HST := hide hst
        clear hst
        gi_wp2_with fail
        go_roundw
        case rel => exact ⟨pre, k + 1, f - 1, by go_num, by omega, by rw [HX.out, HST.out], by omega, by omega, hj, HT.out, HBB.out⟩
        case measure => simp [intOf] <;> omega
      · have hbd : ((c : Int) == 1) = false := by simp; omega
        have hne := nat_extract s k s.size
        rw [List.take_of_length_le (by rw [List.length_drop, nat_length]; omega)] at hne
        have hes : (s.extract k s.size).size = s.size - k := by simp
        have hfa := first_any bt (s.extract k s.size)
        rw [hne] at hfa
        have hfl := firstL_le ((nat s).drop k)
        rw [HDL.out] at hfl
        have hfk := firstL_kind ((nat s).drop k)
        have hc1 : clsN (((nat s).drop k).getD 0 0) ≠ 1 := by rw [HG0.out, HC.out]; exact hbl
        have htn := toks_none (f := f) (l := (nat s).drop k) (p := k) (by rw [HDL.out]; omega) (by rw [HDL.out]; omega) hc1
        have htt := toks_tok (f := f) (l := (nat s).drop k) (p := k) (by rw [HDL.out]; omega) (by rw [HDL.out]; omega) hc1
        have hfz := firstL_zero (l := (nat s).drop k)
        obtain ⟨R, hR⟩ : ∃ R, firstL ((nat s).drop k) = R := ⟨_, rfl⟩
        rw [hR] at hfl hfk htn htt hfz
        rw [List.drop_drop] at htt
        simp only [hR] at hfa
        obtain ⟨fk, fn⟩ := R
        dsimp only at hfa hfl hfk htn htt hfz
        have HFZ := hide hfz
        clear hfz
        have HFA := hide hfa
        have HTN := hide htn
        have HTT := hide htt
        have hfni : (k : Int) + (fn : Int) ≤ (s.size : Int) := by omega
        have hmx : (s.extract k s.size).size ≤ maxLen := by rw [hes]; unfold maxLen; omega
        have hpos : 0 < (s.extract k s.size).size := by rw [hes]; omega
        have HMX := hide hmx
        have HPOS := hide hpos
        clear hne hes hfa hc1 htn htt hR hmx hpos
        gi_wp2_with fail
        refine ⟨trivial, ?_⟩
        refine (callsIn_wide.2 (HFA.out _ HMX.out HPOS.out (tab_of_heap HT.out))).mono ?_
        rintro e w3 ⟨rfl, hq3⟩
        have ht3 := hq3.heapAt HT.out
        have hb3 := hq3.heapAt HBB.out
        have hcs3 : w3.cell? ⟨Bn, 0, none⟩ = some (.string s) := by rw [cell_of_row _ _ _ _ _ _ hb3]; rfl
        have hj3 := abides_q HJ.out hj hq3
        obtain ⟨yfn, ytm, yas, ybd, hy, hRd⟩ := HY.out pre fk k fn w3 hj3 (by omega)
        have HRD := hide hRd
        clear hRd hcs hTk
        gi_wp2_with fail
        refine HRD.out.mono ?_
        rintro e w4 (⟨rfl, hj4, hk4⟩ | ⟨rfl, hjx4⟩)
        · have ht4 := hk4.2 _ _ _ _ (.inr rfl) ht3
          have hb4 := hk4.2 _ _ _ _ (.inl rfl) hb3
          have HT4 := hide ht4
          have HB4 := hide hb4
          clear ht4 hb4 ht3 hb3 hcs3 hy
          by_cases hf0 : fn = 0
          · have hfz := HFZ.out hf0
            subst hf0 hfz
            have hx2 := HX.out
            rw [HTN.out rfl] at hx2
            have HX2 := hide hx2
            clear hx2
            gi_wp2_with fail
            refine bodyPost_ret (results_none rfl _ _ _) rfl ?_
            exact ⟨⟨_, rfl⟩, .inl ⟨pre ++ [(0, k, 0)], by rw [HX2.out]; rfl, hj4⟩⟩
          · have hfd : ((fn : Int) == 0) = false := by simp; omega
            have hx2 := HX.out
            rw [HTT.out hf0] at hx2
            have HX2 := hide hx2
            clear hx2
            gi_wp2_with fail
            go_roundw
            case rel => exact ⟨pre ++ [(fk, k, fn)], k + fn, f - 1, by go_num, by omega, by rw [HX2.out]; simp [seqL], by omega, by simp; omega, hj4, HT4.out, HB4.out⟩
            case measure => simp [intOf] <;> omega
        · clear ht3 hb3 hcs3 hy
          have hpx : pre ++ [(fk, k, fn)] <+: seqL (toksF (nat s)) := by
            rw [HX.out]
            by_cases hf0 : fn = 0
            · have hfz := HFZ.out hf0
              subst hf0 hfz
              rw [HTN.out rfl]
              exact List.prefix_rfl
            · rw [HTT.out hf0]
              exact ⟨seqL (toks (f - 1) ((nat s).drop (k + fn)) (k + fn)), by simp [seqL]⟩
          have HPX := hide hpx
          clear hpx
          gi_wp2_with fail
          refine bodyPost_ret (results_none rfl _ _ _) rfl ?_
          exact ⟨⟨_, rfl⟩, .inr ⟨pre ++ [(fk, k, fn)], HPX.out, hjx4⟩⟩
    · have ek : k = s.size := by omega
      have hd0 : decide (k < s.size) = false := by simpa using hlt
      have hx2 := HX.out
      rw [toks_end (by rw [HDL.out]; omega)] at hx2
      have HX2 := hide hx2
      clear hx2
      gi_wp2_with fail
      go_end0
      exact ⟨⟨_, rfl⟩, .inl ⟨pre, by rw [HX2.out]; simp [seqL], hj⟩⟩
end Go.Proofs.YtofigpjabamnhaaDoor
