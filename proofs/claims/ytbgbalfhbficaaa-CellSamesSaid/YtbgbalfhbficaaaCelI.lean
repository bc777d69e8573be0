/- roomOf at a layout of one number, and at one that may be nothing. Conditions: as each theorem says. -/
import Derived.Test.YtbgbalfhbficaaaCelH
import Derived.Test.YtbgbalfhbficaaaRp
namespace Go.Proofs.Ytbgbalfhbficaaa
open Go.RowKit
set_option linter.unusedVariables false
set_option linter.unusedSimpArgs false
theorem c4L {w : World} {g : Nat} {a b c d : Value} (h0 : w.cell? ⟨g, 0, none⟩ = some a) (h1 : w.cell? ⟨g, 1, none⟩ = some b) (h2 : w.cell? ⟨g, 2, none⟩ = some c) (h3 : w.cell? ⟨g, 3, none⟩ = some d) : ∀ (j : Nat) (v : Value), [a, b, c, d][j]? = some v → w.cell? ⟨g, 0 + j, none⟩ = some v
  | 0, _, h => by injection h with h; rw [← h]; exact h0
  | 1, _, h => by injection h with h; rw [← h]; exact h1
  | 2, _, h => by injection h with h; rw [← h]; exact h2
  | 3, _, h => by injection h with h; rw [← h]; exact h3
  | j + 4, _, h => by simp at h
theorem c2L {w : World} {g : Nat} {a b : Value} (h0 : w.cell? ⟨g, 0, none⟩ = some a) (h1 : w.cell? ⟨g, 1, none⟩ = some b) : ∀ (j : Nat) (v : Value), [a, b][j]? = some v → w.cell? ⟨g, 0 + j, none⟩ = some v
  | 0, _, h => by injection h with h; rw [← h]; exact h0
  | 1, _, h => by injection h with h; rw [← h]; exact h1
  | j + 2, _, h => by simp at h
/-- a room made since -/
def NewR (B : Nat) : Value → World → Prop := fun v W => ∃ q, v = .pointer (some ⟨q, 0, none⟩) ∧ B ≤ q ∧ q < W.heap.size ∧ W.heap[q]? = some (.cells #[.int .i64 0, .int .i64 0] 65 (0, 0))
theorem newR_q (B : Nat) : Ri.Mono (NewR B) := fun _ w1 w2 ⟨q, e, hb, hl, hh⟩ hq => ⟨q, e, hb, Nat.lt_of_lt_of_le hl hq.size, (hq.below.block _ hl).trans hh⟩
namespace Ri
theorem run_allocR {o : Oper} {A : Act} {W : World} (ho : o.op = .alloc 65) : (execOp A.eval o).run Try.prog W = .ok (.value (.pointer (some ⟨W.heap.size, 0, none⟩))) (W.alloc (.cells #[.int .i64 0, .int .i64 0] 65)) := by
  unfold execOp
  simp only [ho]
  have h : (Instr.alloc 65 true (.tuple #[])).run Try.prog W = .ok (.pointer (some ⟨W.heap.size, 0, none⟩)) (W.alloc (.cells #[.int .i64 0, .int .i64 0] 65)) := by kernel_rfl
  simp [Sem.run_bind, h, Result.andThen]
theorem run_minC {P : Program} {o : Oper} {A : Act} {w : World} {x y : Operand} {t t' : TypeId} {p u : Int} (ho : o.op = .call { callee := .builtin .min, args := #[x, y], argTypes := #[t, t'] }) (hx : A.eval x = .int .i64 p) (hy : A.eval y = .int .i64 u) : (execOp A.eval o).run P w = .ok (.value (.int .i64 (if u < p then u else p))) w := by
  unfold execOp
  simp only [ho, resolve, invoke, builtin, Sem.run_bind, Sem.run_pure, Result.andThen_ok, List.map_toArray, List.map_cons, List.map_nil, hx, hy]
  simp [Builtin.min_, Builtin.min2]
end Ri
set_option maxRecDepth 100000 in
set_option maxHeartbeats 2000000 in
theorem room_leaf {n s : Int} (hn : Lf n s) (b : Bool) (w : World) : Calls Try.prog 58 #[lfV n, tgV b] w (R1 w (.agg #[.int .i64 s, .int .i64 s])) := by
  unfold R1
  obtain ⟨w3, hw3⟩ : ∃ w3, ((w.alloc (.cells #[.int .i64 2, .int .i64 n, .bool false, .slice none 0 0] 24)).alloc (.cells #[.int .i64 4, .bool b] 26)).alloc (.cells #[.int .i64 0, .int .i64 0] 65) = w3 := ⟨_, rfl⟩
  obtain ⟨hq3, hs3, hc, hd, he⟩ := box3 hw3
  have hs0 : w.heap.size < w3.heap.size := by omega
  have hs1 : w.heap.size + 1 < w3.heap.size := by omega
  have hs2 : w.heap.size + 2 < w3.heap.size := by omega
  have k0 : w3.cell? ⟨w.heap.size, 0, none⟩ = some (.int .i64 2) := hc 0 _ rfl
  have k1 : w3.cell? ⟨w.heap.size, 1, none⟩ = some (.int .i64 n) := hc 1 _ rfl
  have t0 : w3.cell? ⟨w.heap.size + 1, 0, none⟩ = some (.int .i64 4) := hd 0 _ rfl
  have kb : w3.heap[w.heap.size + 2]? = some (.cells #[.int .i64 0, .int .i64 0] 65 (0, 0)) := by
    have h9 := heap_alloc_new ((w.alloc (.cells #[.int .i64 2, .int .i64 n, .bool false, .slice none 0 0] 24)).alloc (.cells #[.int .i64 4, .bool b] 26)) (.cells #[.int .i64 0, .int .i64 0] 65)
    rw [hw3] at h9
    simpa using h9
  have hmin : (if (4 : Int) < s then (4 : Int) else s) = s := by rcases hn with ⟨-, rfl⟩ | ⟨-, rfl⟩ <;> rfl
  have HN := hide hn
  have HW3 := hide hw3
  have HQ3 := hide hq3
  clear hn hw3 hq3 hc hd he
  go_enter Try.func58, Try.ntmps58
  go_upto_region 1 with fail
  rw [HW3.out]
  go_upto_region 5 with fail
  refine Ri.made_last (Ri.phi [Ri.isV (.pointer (some ⟨w.heap.size, 1, none⟩)), Ri.isV (.int .i64 n), Ri.isV (.int .i64 s), Ri.isV (.pointer (some ⟨w.heap.size, 1, none⟩)), Ri.isV (.int .i64 n), Ri.isV (.int .i64 s), Ri.isV (.pointer (some ⟨w.heap.size + 1, 0, none⟩)), Ri.isV (.int .i64 4), Ri.isV (.int .i64 s), Ri.isV (.agg #[.int .i64 s, .int .i64 s])]) (by kernel_rfl) (by kernel_rfl) rfl (by kernel_rfl) rfl (Ri.phi_mono ?_) ?_ ?_
  · exact ⟨Ri.mono_isV _, Ri.mono_isV _, Ri.mono_isV _, Ri.mono_isV _, Ri.mono_isV _, Ri.mono_isV _, Ri.mono_isV _, Ri.mono_isV _, Ri.mono_isV _, Ri.mono_isV _, trivial⟩
  · refine Ri.All.cons ?_ (Ri.All.cons ?_ (Ri.All.cons ?_ (Ri.All.cons ?_ (Ri.All.cons ?_ (Ri.All.cons ?_ (Ri.All.cons ?_ (Ri.All.cons ?_ (Ri.All.cons ?_ (Ri.All.cons ?_ (Ri.All.nil))))))))))
    · refine ⟨rfl, fun f W hq hf A hA hB hO => ?_⟩
      have e1 := (hB 2 (by kernel_rfl)).trans (show _ = .pointer (some ⟨w.heap.size, 0, none⟩) by simp [Act.eval])
      exact Ri.wp_value _ (Ri.run_fld (f := _) rfl e1 Try.underlying24 rfl (sz := 0) (by kernel_rfl)) rfl
    · refine ⟨rfl, fun f W hq hf A hA hB hO => ?_⟩
      have e1 := (hA 22 0 (by kernel_rfl) (by simp)).trans (show f 0 = _ from hf 0 (by kernel_rfl))
      exact Ri.wp_value _ (Ri.run_ld1 rfl e1 Try.underlying3 rfl ((hq.facts.1 _ 1 hs0).trans k1)) rfl
    · refine ⟨rfl, fun f W hq hf A hA hB hO => ?_⟩
      have e1 := (hA 23 1 (by kernel_rfl) (by simp)).trans (show f 1 = _ from hf 1 (by kernel_rfl))
      refine Ri.wp_call #[.int .i64 n] rfl (by simp [e1]) Try.func88 (by kernel_rfl) (by kernel_rfl) ((whole_any HN.out W).mono ?_)
      rintro e w9 ⟨rfl, h1⟩
      exact ⟨_, rfl, h1, rfl⟩
    · refine ⟨rfl, fun f W hq hf A hA hB hO => ?_⟩
      have e1 := (hB 2 (by kernel_rfl)).trans (show _ = .pointer (some ⟨w.heap.size, 0, none⟩) by simp [Act.eval])
      exact Ri.wp_value _ (Ri.run_fld (f := _) rfl e1 Try.underlying24 rfl (sz := 0) (by kernel_rfl)) rfl
    · refine ⟨rfl, fun f W hq hf A hA hB hO => ?_⟩
      have e1 := (hA 25 3 (by kernel_rfl) (by simp)).trans (show f 3 = _ from hf 3 (by kernel_rfl))
      exact Ri.wp_value _ (Ri.run_ld1 rfl e1 Try.underlying3 rfl ((hq.facts.1 _ 1 hs0).trans k1)) rfl
    · refine ⟨rfl, fun f W hq hf A hA hB hO => ?_⟩
      have e1 := (hA 26 4 (by kernel_rfl) (by simp)).trans (show f 4 = _ from hf 4 (by kernel_rfl))
      refine Ri.wp_call #[.int .i64 n] rfl (by simp [e1]) Try.func88 (by kernel_rfl) (by kernel_rfl) ((whole_any HN.out W).mono ?_)
      rintro e w9 ⟨rfl, h1⟩
      exact ⟨_, rfl, h1, rfl⟩
    · refine ⟨rfl, fun f W hq hf A hA hB hO => ?_⟩
      have e1 := (hB 3 (by kernel_rfl)).trans (show _ = .pointer (some ⟨w.heap.size + 1, 0, none⟩) by simp [Act.eval])
      exact Ri.wp_value _ (Ri.run_fld (f := _) rfl e1 Try.underlying26 rfl (sz := 0) (by kernel_rfl)) rfl
    · refine ⟨rfl, fun f W hq hf A hA hB hO => ?_⟩
      have e1 := (hA 28 6 (by kernel_rfl) (by simp)).trans (show f 6 = _ from hf 6 (by kernel_rfl))
      exact Ri.wp_value _ (Ri.run_ld1 rfl e1 Try.underlying3 rfl ((hq.facts.1 _ 0 hs1).trans t0)) rfl
    · refine ⟨rfl, fun f W hq hf A hA hB hO => ?_⟩
      have e1 := (hA 27 5 (by kernel_rfl) (by simp)).trans (show f 5 = _ from hf 5 (by kernel_rfl))
      have e2 := (hA 29 7 (by kernel_rfl) (by simp)).trans (show f 7 = _ from hf 7 (by kernel_rfl))
      exact Ri.wp_value _ ((Ri.run_minC rfl e1 e2).trans (by rw [hmin])) rfl
    · refine ⟨rfl, fun f W hq hf A hA hB hO => ?_⟩
      have e1 := (hA 24 2 (by kernel_rfl) (by simp)).trans (show f 2 = _ from hf 2 (by kernel_rfl))
      have e2 := (hA 30 8 (by kernel_rfl) (by simp)).trans (show f 8 = _ from hf 8 (by kernel_rfl))
      exact Ri.wp_struct rfl [(0, .int .i64 s), (1, .int .i64 s)] (by simp [e1, e2]) (by kernel_rfl) rfl
  · intro f W2 hq hf A hAe hA hB
    have e1 := (hB 4 (by kernel_rfl)).trans (show _ = .pointer (some ⟨w.heap.size + 2, 0, none⟩) by simp [Act.eval])
    have e2 := (hA 31 9 (by kernel_rfl) (by simp)).trans (show f 9 = _ from hf 9 (by simp))
    refine wp_store_row _ _ _ rfl _ _ e1 e2 _ _ ((hq.below.block _ hs2).trans kb) (by kernel_rfl) rfl (by simp [Value.oneCell']) ⟨undef, rfl, ?_⟩
    rw [hAe]
    simp only [Ri.acts, Act.put, List.setIfInBounds_toArray, List.set_cons_zero, List.set_cons_succ, Nat.zero_add, Nat.reduceAdd]
    have HXW := hide hq
    clear hA hB hAe e1 e2 hf hq
    have HGR := hide ((HXW.out.below.block _ hs2).trans kb)
    have HQW := hide ((HQ3.out.trans HXW.out).setRow (g := w.heap.size + 2) (by omega) #[.int .i64 s, .int .i64 s])
    clear k0 k1 t0 kb
    have s0 : (W2.setRow (w.heap.size + 2) #[.int .i64 s, .int .i64 s]).cell? ⟨w.heap.size + 2, 0, none⟩ = some (.int .i64 s) := (cell_setRow_same _ _ 0 _ _ _ _ HGR.out).trans rfl
    have s1 : (W2.setRow (w.heap.size + 2) #[.int .i64 s, .int .i64 s]).cell? ⟨w.heap.size + 2, 1, none⟩ = some (.int .i64 s) := (cell_setRow_same _ _ 1 _ _ _ _ HGR.out).trans rfl
    go_wp2_with fail
    refine bodyPost_ret (v := .agg #[.int .i64 s, .int .i64 s]) (by simp [results, Try.results58, go_sem, s0, s1]) rfl ?_
    exact ⟨rfl, HQW.out⟩
set_option maxRecDepth 100000 in
set_option maxHeartbeats 2000000 in
theorem room_opt (g : Nat) (b : Bool) (w : World) (h8 : Op8 w g) : Calls Try.prog 58 #[opV g, tgV b] w (R1 w (.agg #[.int .i64 2, .int .i64 1])) := by
  unfold R1
  obtain ⟨w3, hw3⟩ : ∃ w3, ((w.alloc (.cells #[.int .i64 4, .int .i64 0, .bool false, .slice (some ⟨g, 0, none⟩) 1 1] 24)).alloc (.cells #[.int .i64 4, .bool b] 26)).alloc (.cells #[.int .i64 0, .int .i64 0] 65) = w3 := ⟨_, rfl⟩
  obtain ⟨hq3, hs3, hc, hd, he⟩ := box3 hw3
  have hs0 : w.heap.size < w3.heap.size := by omega
  have hs1 : w.heap.size + 1 < w3.heap.size := by omega
  have hs2 : w.heap.size + 2 < w3.heap.size := by omega
  have k0 : w3.cell? ⟨w.heap.size, 0, none⟩ = some (.int .i64 4) := hc 0 _ rfl
  have k3 : w3.cell? ⟨w.heap.size, 3, none⟩ = some (.slice (some ⟨g, 0, none⟩) 1 1) := hc 3 _ rfl
  have t0 : w3.cell? ⟨w.heap.size + 1, 0, none⟩ = some (.int .i64 4) := hd 0 _ rfl
  have t1 : w3.cell? ⟨w.heap.size + 1, 1, none⟩ = some (.bool b) := hd 1 _ rfl
  have kb : w3.heap[w.heap.size + 2]? = some (.cells #[.int .i64 0, .int .i64 0] 65 (0, 0)) := by
    have h9 := heap_alloc_new ((w.alloc (.cells #[.int .i64 4, .int .i64 0, .bool false, .slice (some ⟨g, 0, none⟩) 1 1] 24)).alloc (.cells #[.int .i64 4, .bool b] 26)) (.cells #[.int .i64 0, .int .i64 0] 65)
    rw [hw3] at h9
    simpa using h9
  have H8 := hide (h8.up hq3)
  have HW3 := hide hw3
  have HQ3 := hide hq3
  clear h8 hw3 hq3 hc hd he
  go_enter Try.func58, Try.ntmps58
  go_upto_region 1 with fail
  rw [HW3.out]
  go_upto_region 9 with fail
  refine Ri.made_last (Ri.phi [Ri.isV (.pointer (some ⟨w.heap.size, 3, none⟩)), Ri.isV (.slice (some ⟨g, 0, none⟩) 1 1), Ri.isV (.pointer (some ⟨g, 0 + 0 * 4, none⟩)), Ri.isV (lfV 8), Ri.isV (tgV b), Ri.isV (.agg #[.int .i64 1, .int .i64 1]), (NewR w3.heap.size)]) (by kernel_rfl) (by kernel_rfl) rfl (by kernel_rfl) rfl (Ri.phi_mono ?_) ?_ ?_
  · exact ⟨Ri.mono_isV _, Ri.mono_isV _, Ri.mono_isV _, Ri.mono_isV _, Ri.mono_isV _, Ri.mono_isV _, newR_q _, trivial⟩
  · refine Ri.All.cons ?_ (Ri.All.cons ?_ (Ri.All.cons ?_ (Ri.All.cons ?_ (Ri.All.cons ?_ (Ri.All.cons ?_ (Ri.All.cons ?_ (Ri.All.nil)))))))
    · refine ⟨rfl, fun f W hq hf A hA hB hO => ?_⟩
      have e1 := (hB 2 (by kernel_rfl)).trans (show _ = .pointer (some ⟨w.heap.size, 0, none⟩) by simp [Act.eval])
      exact Ri.wp_value _ (Ri.run_fld (f := _) rfl e1 Try.underlying24 rfl (sz := 0) (by kernel_rfl)) rfl
    · refine ⟨rfl, fun f W hq hf A hA hB hO => ?_⟩
      have e1 := (hA 41 0 (by kernel_rfl) (by simp)).trans (show f 0 = _ from hf 0 (by kernel_rfl))
      exact Ri.wp_value _ (Ri.run_ld1 rfl e1 Try.underlying22 rfl ((hq.facts.1 _ 3 hs0).trans k3)) rfl
    · refine ⟨rfl, fun f W hq hf A hA hB hO => ?_⟩
      have e1 := (hA 42 1 (by kernel_rfl) (by simp)).trans (show f 1 = _ from hf 1 (by kernel_rfl))
      have e2 : A.eval (.const (.int .i64 0)) = .int .i64 ((0 : Nat) : Int) := rfl
      exact Ri.wp_value _ (Ri.run_idx rfl e1 e2 Try.underlying22 (sz := 4) (by kernel_rfl) (by decide)) rfl
    · refine ⟨rfl, fun f W hq hf A hA hB hO => ?_⟩
      have e1 := (hA 43 2 (by kernel_rfl) (by simp)).trans (show f 2 = _ from hf 2 (by kernel_rfl))
      obtain ⟨hl, c0, c1, c2, c3⟩ := H8.out.up ((Q.refl _).drew.trans hq)
      exact Ri.wp_value _ (Ri.run_ldagg (cs := [.int .i64 2, .int .i64 8, .bool false, .slice none 0 0]) rfl e1 (c4L c0 c1 c2 c3) Try.underlying24 rfl (by kernel_rfl)) rfl
    · refine ⟨rfl, fun f W hq hf A hA hB hO => ?_⟩
      have e1 := (hB 3 (by kernel_rfl)).trans (show _ = .pointer (some ⟨w.heap.size + 1, 0, none⟩) by simp [Act.eval])
      exact Ri.wp_value _ (Ri.run_ldagg (cs := [.int .i64 4, .bool b]) rfl e1 (c2L ((hq.facts.1 _ 0 hs1).trans t0) ((hq.facts.1 _ 1 hs1).trans t1)) Try.underlying26 rfl (by kernel_rfl)) rfl
    · refine ⟨rfl, fun f W hq hf A hA hB hO => ?_⟩
      have e1 := (hA 44 3 (by kernel_rfl) (by simp)).trans (show f 3 = _ from hf 3 (by kernel_rfl))
      have e2 := (hA 45 4 (by kernel_rfl) (by simp)).trans (show f 4 = _ from hf 4 (by kernel_rfl))
      refine Ri.wp_call #[lfV 8, tgV b] rfl (by simp [e1, e2]) Try.func58 (by kernel_rfl) (by kernel_rfl) ((room_leaf (n := 8) (s := 1) (.inl ⟨rfl, rfl⟩) b W).mono ?_)
      rintro e w9 ⟨rfl, h1⟩
      exact ⟨_, rfl, h1, rfl⟩
    · refine ⟨rfl, fun f W hq hf A hA hB hO => ?_⟩
      exact Ri.wp_val _ (Ri.run_allocR rfl) ((Q.refl W).alloc _) ⟨_, rfl, hq.size, by simp, heap_alloc_new W _⟩
  · intro f W2 hq hf A hAe hA hB
    obtain ⟨q, hqe, hqb, hql, hqh⟩ : NewR w3.heap.size (f 6) W2 := hf 6 (by simp)
    have e1 := (hA 5 6 (by kernel_rfl) (by simp)).trans hqe
    have e2 := (hA 46 5 (by kernel_rfl) (by simp)).trans (show f 5 = _ from hf 5 (by simp))
    refine wp_store_row _ _ _ rfl _ _ e1 e2 _ _ (hqh) (by kernel_rfl) rfl (by simp [Value.oneCell']) ⟨undef, rfl, ?_⟩
    rw [hAe]
    simp only [Ri.acts, Act.put, List.setIfInBounds_toArray, List.set_cons_zero, List.set_cons_succ, Nat.zero_add, Nat.reduceAdd]
    have HXW := hide hq
    have HQH := hide hqh
    have HQB := hide hqb
    rw [hqe]
    clear hA hB hAe e1 e2 hf hq hqh hqe hqb
    have hqs0 : q < W2.heap.size := (Array.getElem?_eq_some_iff.1 HQH.out).1
    have hqne : w.heap.size + 2 ≠ q := by have := HQB.out; omega
    obtain ⟨wr, hwr⟩ : ∃ wr, W2.setRow q #[.int .i64 1, .int .i64 1] = wr := ⟨_, rfl⟩
    have hqs : q < wr.heap.size := by rw [← hwr]; simpa using hqs0
    have q0 : wr.cell? ⟨q, 0, none⟩ = some (.int .i64 1) := by rw [← hwr]; exact (cell_setRow_same _ _ 0 _ _ _ _ HQH.out).trans rfl
    have q1 : wr.cell? ⟨q, 1, none⟩ = some (.int .i64 1) := by rw [← hwr]; exact (cell_setRow_same _ _ 1 _ _ _ _ HQH.out).trans rfl
    have kbr : wr.heap[w.heap.size + 2]? = some (.cells #[.int .i64 0, .int .i64 0] 65 (0, 0)) := by
      rw [← hwr, setRow_other _ _ _ _ hqne]
      exact (HXW.out.below.block _ hs2).trans kb
    have hs2r : w.heap.size + 2 < wr.heap.size := by
      rw [← hwr]
      have := HXW.out.size
      simp
      omega
    have HQR := hide (show Q w wr by rw [← hwr]; exact (HQ3.out.trans HXW.out).setRow (by have := HQB.out; omega) _)
    have HWR := hide hwr
    clear k0 k3 t0 t1 kb hwr
    go_upto_region 10 with fail
    rw [HWR.out]
    refine Ri.made_last (Ri.phi [Ri.isV (.pointer (some ⟨q, 0, none⟩)), Ri.isV (.int .i64 1), (fun v W => ∃ b, v = .slice (some ⟨b, 0, none⟩) 2 2 ∧ b < W.heap.size ∧ W.cell? ⟨b, 0, none⟩ = some (.int .i64 1) ∧ W.cell? ⟨b, 1, none⟩ = some (.int .i64 1)), Ri.isV (.int .i64 (1 + 1)), Ri.isV (.pointer (some ⟨q, 1, none⟩)), Ri.isV (.int .i64 1), Ri.isV (.int .i64 2), Ri.isV (.pointer (some ⟨q, 1, none⟩)), Ri.isV (.int .i64 1), Ri.isV (.agg #[.int .i64 2, .int .i64 1])]) (by kernel_rfl) (by kernel_rfl) rfl (by kernel_rfl) rfl (Ri.phi_mono ?_) ?_ ?_
    · exact ⟨Ri.mono_isV _, Ri.mono_isV _, (fun _ w3 w4 ⟨b, e, hb, c0, c1⟩ hq => ⟨b, e, Nat.lt_of_lt_of_le hb hq.size, (hq.facts.1 _ _ hb).trans c0, (hq.facts.1 _ _ hb).trans c1⟩), Ri.mono_isV _, Ri.mono_isV _, Ri.mono_isV _, Ri.mono_isV _, Ri.mono_isV _, Ri.mono_isV _, Ri.mono_isV _, trivial⟩
    · refine Ri.All.cons ?_ (Ri.All.cons ?_ (Ri.All.cons ?_ (Ri.All.cons ?_ (Ri.All.cons ?_ (Ri.All.cons ?_ (Ri.All.cons ?_ (Ri.All.cons ?_ (Ri.All.cons ?_ (Ri.All.cons ?_ (Ri.All.nil))))))))))
      · refine ⟨rfl, fun f W hq hf A hA hB hO => ?_⟩
        have e1 := (hB 5 (by kernel_rfl)).trans (show _ = .pointer (some ⟨q, 0, none⟩) by simp [Act.eval])
        exact Ri.wp_value _ (Ri.run_fld (f := _) rfl e1 Try.underlying65 rfl (sz := 0) (by kernel_rfl)) rfl
      · refine ⟨rfl, fun f W hq hf A hA hB hO => ?_⟩
        have e1 := (hA 47 0 (by kernel_rfl) (by simp)).trans (show f 0 = _ from hf 0 (by kernel_rfl))
        exact Ri.wp_value _ (Ri.run_ld1 rfl e1 Try.underlying3 rfl ((hq.facts.1 _ 0 hqs).trans q0)) rfl
      · refine ⟨rfl, fun f W hq hf A hA hB hO => ?_⟩
        have e1 := (hA 48 1 (by kernel_rfl) (by simp)).trans (show f 1 = _ from hf 1 (by kernel_rfl))
        obtain ⟨ti, hi9, hz9, hsz9, hby9⟩ := info_parts (show (Try.prog.info? 3).map (fun i => (i.zero, i.size, i.bytes)) = some (some (.int .i64 0), 1, 8) by kernel_rfl)
        refine wp_buildSlice 32 3 2 _ rfl #[.int .i64 1, .int .i64 1] ti _ Try.underlying32 hi9 hz9 (by rw [hsz9]; decide) (by rw [hsz9]; decide) ?_ ⟨_, rfl, (Q.refl W).alloc _, W.heap.size, rfl, by simp, cell_blkJ (heap_alloc_new W _) rfl, cell_blkJ (heap_alloc_new W _) rfl⟩
        rw [hsz9]
        simp only [List.map_toArray, List.map_cons, List.map_nil, e1]
        kernel_rfl
      · refine ⟨rfl, fun f W hq hf A hA hB hO => ?_⟩
        obtain ⟨b9, hb9, hl9, c0, c1⟩ : ∃ b, f 2 = .slice (some ⟨b, 0, none⟩) 2 2 ∧ b < W.heap.size ∧ W.cell? ⟨b, 0, none⟩ = some (.int .i64 1) ∧ W.cell? ⟨b, 1, none⟩ = some (.int .i64 1) := hf 2 (by kernel_rfl)
        have e1 := (hA 49 2 (by kernel_rfl) (by simp)).trans hb9
        refine Ri.wp_call #[.slice (some ⟨b9, 0, none⟩) 2 2] rfl (by simp [e1]) Try.func66 (by kernel_rfl) (by kernel_rfl) ((sum2 b9 1 1 W hl9 c0 c1 (by omega) (by omega) (by omega) (by omega)).mono ?_)
        rintro e w9 ⟨rfl, h1⟩
        exact ⟨_, rfl, h1, rfl⟩
      · refine ⟨rfl, fun f W hq hf A hA hB hO => ?_⟩
        have e1 := (hB 5 (by kernel_rfl)).trans (show _ = .pointer (some ⟨q, 0, none⟩) by simp [Act.eval])
        exact Ri.wp_value _ (Ri.run_fld (f := _) rfl e1 Try.underlying65 rfl (sz := 0) (by kernel_rfl)) rfl
      · refine ⟨rfl, fun f W hq hf A hA hB hO => ?_⟩
        have e1 := (hA 51 4 (by kernel_rfl) (by simp)).trans (show f 4 = _ from hf 4 (by kernel_rfl))
        exact Ri.wp_value _ (Ri.run_ld1 rfl e1 Try.underlying3 rfl ((hq.facts.1 _ 1 hqs).trans q1)) rfl
      · refine ⟨rfl, fun f W hq hf A hA hB hO => ?_⟩
        have e1 := (hA 50 3 (by kernel_rfl) (by simp)).trans (show f 3 = _ from hf 3 (by kernel_rfl))
        have e2 := (hA 52 5 (by kernel_rfl) (by simp)).trans (show f 5 = _ from hf 5 (by kernel_rfl))
        refine Ri.wp_call #[.int .i64 2, .int .i64 1] rfl (by simp [e1, e2]) Try.func65 (by kernel_rfl) (by kernel_rfl) ((up21 W).mono ?_)
        rintro e w9 ⟨rfl, h1⟩
        exact ⟨_, rfl, h1, rfl⟩
      · refine ⟨rfl, fun f W hq hf A hA hB hO => ?_⟩
        have e1 := (hB 5 (by kernel_rfl)).trans (show _ = .pointer (some ⟨q, 0, none⟩) by simp [Act.eval])
        exact Ri.wp_value _ (Ri.run_fld (f := _) rfl e1 Try.underlying65 rfl (sz := 0) (by kernel_rfl)) rfl
      · refine ⟨rfl, fun f W hq hf A hA hB hO => ?_⟩
        have e1 := (hA 54 7 (by kernel_rfl) (by simp)).trans (show f 7 = _ from hf 7 (by kernel_rfl))
        exact Ri.wp_value _ (Ri.run_ld1 rfl e1 Try.underlying3 rfl ((hq.facts.1 _ 1 hqs).trans q1)) rfl
      · refine ⟨rfl, fun f W hq hf A hA hB hO => ?_⟩
        have e1 := (hA 53 6 (by kernel_rfl) (by simp)).trans (show f 6 = _ from hf 6 (by kernel_rfl))
        have e2 := (hA 55 8 (by kernel_rfl) (by simp)).trans (show f 8 = _ from hf 8 (by kernel_rfl))
        exact Ri.wp_struct rfl [(0, .int .i64 2), (1, .int .i64 1)] (by simp [e1, e2]) (by kernel_rfl) rfl
    · intro f W5 hq hf A hAe hA hB
      have e1 := (hB 4 (by kernel_rfl)).trans (show _ = .pointer (some ⟨w.heap.size + 2, 0, none⟩) by simp [Act.eval])
      have e2 := (hA 56 9 (by kernel_rfl) (by simp)).trans (show f 9 = _ from hf 9 (by simp))
      refine wp_store_row _ _ _ rfl _ _ e1 e2 _ _ ((hq.below.block _ hs2r).trans kbr) (by kernel_rfl) rfl (by simp [Value.oneCell']) ⟨undef, rfl, ?_⟩
      rw [hAe]
      simp only [Ri.acts, Act.put, List.setIfInBounds_toArray, List.set_cons_zero, List.set_cons_succ, Nat.zero_add, Nat.reduceAdd]
      have HXW2 := hide hq
      clear hA hB hAe e1 e2 hf hq
      have HGR := hide ((HXW2.out.below.block _ hs2r).trans kbr)
      have HQW := hide ((HQR.out.trans HXW2.out).setRow (g := w.heap.size + 2) (by omega) #[.int .i64 2, .int .i64 1])
      clear q0 q1 kbr
      have s0 : (W5.setRow (w.heap.size + 2) #[.int .i64 2, .int .i64 1]).cell? ⟨w.heap.size + 2, 0, none⟩ = some (.int .i64 2) := (cell_setRow_same _ _ 0 _ _ _ _ HGR.out).trans rfl
      have s1 : (W5.setRow (w.heap.size + 2) #[.int .i64 2, .int .i64 1]).cell? ⟨w.heap.size + 2, 1, none⟩ = some (.int .i64 1) := (cell_setRow_same _ _ 1 _ _ _ _ HGR.out).trans rfl
      go_wp2_with fail
      refine bodyPost_ret (v := .agg #[.int .i64 2, .int .i64 1]) (by simp [results, Try.results58, go_sem, s0, s1]) rfl ?_
      exact ⟨rfl, HQW.out⟩
end Go.Proofs.Ytbgbalfhbficaaa
