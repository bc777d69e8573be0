/- The law CellSames: its walk. Conditions: the cells read as such. -/
import Derived.Test.YtbgbalfhbficaaaCelQ
import Derived.Test.YtbgbalfhbficaaaMg
namespace Go.Proofs.Ytbgbalfhbficaaa
open Go.RowKit
set_option linter.unusedVariables false
set_option linter.unusedSimpArgs false
namespace Ri
theorem run_eqlB {P : Program} {o : Oper} {A : Act} {w : World} {x y : Operand} {t t' : TypeId} {p q : Bool} (ho : o.op = .binOp .eql t x y t') (hx : A.eval x = .bool p) (hy : A.eval y = .bool q) (hu : P.underlying t = some .bool) : (execOp A.eval o).run P w = .ok (.value (.bool (p == q))) w := by
  unfold execOp
  simp only [ho, hx, hy]
  simp [go_sem, hu]
end Ri
set_option maxRecDepth 100000 in
set_option maxHeartbeats 1000000 in
theorem CellSames_true (a b : Cel) (w : World) (ha : CelR w a) (hb : CelR w b) : Calls Try.prog 4 #[a.v, b.v] w fun e w' => e = .returned (.bool true) ∧ Q w w' := by
  have HC1 := hide (fun W (h : Q w W) => Count_any ha W h)
  have HC2 := hide (fun W (h : Q w W) => Count_any hb W h)
  have HS1 := hide (fun W (h : Q w W) => Same_any ha W h b (hb.up h))
  have HS2 := hide (fun W (h : Q w W) => rSame_any ha W h b (hb.up h))
  have HS3 := hide (fun W (h : Q w W) => Same_any ha W h a (ha.up h))
  have HKN := hide (fun W => known_any W)
  unfold SameP at HS1 HS2 HS3
  unfold R1 at HKN
  have hself := sameC_self ha
  rw [hself] at HS3
  obtain ⟨r, hr⟩ : ∃ r, sameC a b = r := ⟨_, rfl⟩
  rw [hr] at HS1 HS2
  obtain ⟨n, x, y, A0, len, cap, ps⟩ := a
  obtain ⟨m, u, v, B0, k, d, qs⟩ := b
  unfold Cel.v at HC1 HC2 HS1 HS2 HS3 ⊢
  dsimp only at HC1 HC2 HS1 HS2 HS3 ⊢
  obtain ⟨w2, hw2⟩ : ∃ w2, (w.alloc (.cells #[.int .i64 n, .bool x, .bool y, .slice A0 len cap] 31)).alloc (.cells #[.int .i64 m, .bool u, .bool v, .slice B0 k d] 31) = w2 := ⟨_, rfl⟩
  obtain ⟨hq2, hs2, hc, hd⟩ := box2 hw2
  have h0 : w.heap.size < w2.heap.size := by omega
  have h1 : w.heap.size + 1 < w2.heap.size := by omega
  have k0 := hc 0 _ rfl
  have k1 := hc 1 _ rfl
  have k2 := hc 2 _ rfl
  have k3 := hc 3 _ rfl
  have t0 := hd 0 _ rfl
  have t1 := hd 1 _ rfl
  have t2 := hd 2 _ rfl
  have t3 := hd 3 _ rfl
  have KA : Hid (∀ W, Q w2 W → W.cell? ⟨w.heap.size, 0, none⟩ = some (.int .i64 n) ∧ W.cell? ⟨w.heap.size, 1, none⟩ = some (.bool x) ∧ W.cell? ⟨w.heap.size, 2, none⟩ = some (.bool y) ∧ W.cell? ⟨w.heap.size, 3, none⟩ = some (.slice A0 len cap) ∧ W.cell? ⟨w.heap.size + 1, 0, none⟩ = some (.int .i64 m) ∧ W.cell? ⟨w.heap.size + 1, 1, none⟩ = some (.bool u) ∧ W.cell? ⟨w.heap.size + 1, 2, none⟩ = some (.bool v) ∧ W.cell? ⟨w.heap.size + 1, 3, none⟩ = some (.slice B0 k d)) := hide fun W h => ⟨(h.facts.1 _ 0 h0).trans k0, (h.facts.1 _ 1 h0).trans k1, (h.facts.1 _ 2 h0).trans k2, (h.facts.1 _ 3 h0).trans k3, (h.facts.1 _ 0 h1).trans t0, (h.facts.1 _ 1 h1).trans t1, (h.facts.1 _ 2 h1).trans t2, (h.facts.1 _ 3 h1).trans t3⟩
  have dr : (r == r) = true := by cases r <;> rfl
  have HW2 := hide hw2
  have HQ2 := hide hq2
  clear ha hb hself hr hw2 hc hd hq2
  go_enter Try.func4, Try.ntmps4
  go_upto_region 1 with fail
  rw [HW2.out]
  go_wp2_with fail
  refine (HC1.out w2 HQ2.out).mono ?_
  rintro e w3 ⟨⟨n3, rfl⟩, hq3⟩
  have HQ3 := hide (HQ2.out.trans hq3)
  have HQ23 := hide hq3
  clear k0 k1 k2 k3 t0 t1 t2 t3 hq3
  cases hn3 : decide (6000 < n3) with
  | true =>
    go_wp2_with fail
    refine (HKN.out _).mono ?_
    rintro e w5 ⟨rfl, hq5⟩
    go_wp2_with fail
    go_ret
    exact ⟨rfl, HQ3.out.trans hq5⟩
  | false =>
    obtain ⟨k0, k1, k2, k3, t0, t1, t2, t3⟩ := KA.out w3 HQ23.out
    go_wp2_with fail
    refine (HC2.out w3 HQ3.out).mono ?_
    rintro e w4 ⟨⟨n4, rfl⟩, hq4⟩
    have HQ4 := hide (HQ3.out.trans hq4)
    have HQ24 := hide (HQ23.out.trans hq4)
    clear k0 k1 k2 k3 t0 t1 t2 t3 hq4
    cases hn4 : decide (6000 < n4) with
    | true =>
      go_wp2_with fail
      refine (HKN.out _).mono ?_
      rintro e w5 ⟨rfl, hq5⟩
      go_wp2_with fail
      go_ret
      exact ⟨rfl, HQ4.out.trans hq5⟩
    | false =>
      obtain ⟨k0, k1, k2, k3, t0, t1, t2, t3⟩ := KA.out w4 HQ24.out
      have hs0 : w.heap.size < w4.heap.size := by have := HQ24.out.size; omega
      have hs1 : w.heap.size + 1 < w4.heap.size := by have := HQ24.out.size; omega
      go_upto_region 3 with fail
      refine Ri.madeZ (C := fun W => Q w4 W) [] [0, 1, 2, 3, 4, 5, 6, 7, 8, 9, 10, 11, 12, 13, 14, 15] (fun w1 w3 X hq => X.trans hq) (Ri.phi [Ri.isV (.agg #[.int .i64 n, .bool x, .bool y, .slice A0 len cap]), Ri.isV (.agg #[.int .i64 m, .bool u, .bool v, .slice B0 k d]), Ri.isV (.bool r), Ri.isV (.agg #[.int .i64 n, .bool x, .bool y, .slice A0 len cap]), Ri.isV (.agg #[.int .i64 m, .bool u, .bool v, .slice B0 k d]), Ri.isV (.bool r), Ri.isV (.bool true), Ri.isV (.bool true), Ri.isV (.agg #[.int .i64 n, .bool x, .bool y, .slice A0 len cap]), Ri.isV (.agg #[.int .i64 n, .bool x, .bool y, .slice A0 len cap]), Ri.isV (.bool true), Ri.isV (.bool true), Ri.isV (.bool true), Ri.isV (.bool true), Ri.isV (.bool true), Ri.isV (.bool true)]) (by kernel_rfl) (by kernel_rfl) (by kernel_rfl) ((Q.refl _).drew) (Ri.phi_mono ?_) (Ri.phi_fix ?_) ?_ ?_
      · exact ⟨Ri.mono_isV _, Ri.mono_isV _, Ri.mono_isV _, Ri.mono_isV _, Ri.mono_isV _, Ri.mono_isV _, Ri.mono_isV _, Ri.mono_isV _, Ri.mono_isV _, Ri.mono_isV _, Ri.mono_isV _, Ri.mono_isV _, Ri.mono_isV _, Ri.mono_isV _, Ri.mono_isV _, Ri.mono_isV _, trivial⟩
      · exact ⟨fun _ => Ri.fix_isV _, fun _ => Ri.fix_isV _, fun _ => Ri.fix_isV _, fun _ => Ri.fix_isV _, fun _ => Ri.fix_isV _, fun _ => Ri.fix_isV _, fun _ => Ri.fix_isV _, fun _ => Ri.fix_isV _, fun _ => Ri.fix_isV _, fun _ => Ri.fix_isV _, fun _ => Ri.fix_isV _, fun _ => Ri.fix_isV _, fun _ => Ri.fix_isV _, fun _ => Ri.fix_isV _, fun _ => Ri.fix_isV _, fun _ => Ri.fix_isV _, trivial⟩
      · refine Ri.All.cons ?_ (Ri.All.cons ?_ (Ri.All.cons ?_ (Ri.All.cons ?_ (Ri.All.cons ?_ (Ri.All.cons ?_ (Ri.All.cons ?_ (Ri.All.cons ?_ (Ri.All.cons ?_ (Ri.All.cons ?_ (Ri.All.cons ?_ (Ri.All.cons ?_ (Ri.All.cons ?_ (Ri.All.cons ?_ (Ri.All.cons ?_ (Ri.All.cons ?_ (Ri.All.nil))))))))))))))))
        · refine Ri.StepZ.q (by kernel_rfl) rfl fun f W hq hf A hA hB hO => ?_
          have e1 := (hB 2 (by kernel_rfl)).trans (show _ = .pointer (some ⟨w.heap.size, 0, none⟩) by simp [Act.eval])
          have h0 := (hq.facts.1 _ 0 hs0).trans k0
          have h1 := (hq.facts.1 _ 1 hs0).trans k1
          have h2 := (hq.facts.1 _ 2 hs0).trans k2
          have h3 := (hq.facts.1 _ 3 hs0).trans k3
          exact Ri.wp_value _ (Ri.run_ldagg (cs := [.int .i64 n, .bool x, .bool y, .slice A0 len cap]) rfl e1 (c4L h0 h1 h2 h3) Try.underlying31 rfl (by kernel_rfl)) rfl
        · refine Ri.StepZ.q (by kernel_rfl) rfl fun f W hq hf A hA hB hO => ?_
          have e1 := (hB 3 (by kernel_rfl)).trans (show _ = .pointer (some ⟨w.heap.size + 1, 0, none⟩) by simp [Act.eval])
          have h0 := (hq.facts.1 _ 0 hs1).trans t0
          have h1 := (hq.facts.1 _ 1 hs1).trans t1
          have h2 := (hq.facts.1 _ 2 hs1).trans t2
          have h3 := (hq.facts.1 _ 3 hs1).trans t3
          exact Ri.wp_value _ (Ri.run_ldagg (cs := [.int .i64 m, .bool u, .bool v, .slice B0 k d]) rfl e1 (c4L h0 h1 h2 h3) Try.underlying31 rfl (by kernel_rfl)) rfl
        · refine Ri.StepZ.q (by kernel_rfl) rfl fun f W hq hf A hA hB hO => ?_
          have e1 := (hA 14 0 (by kernel_rfl) (by simp)).trans (show f 0 = _ from hf 0 (by kernel_rfl))
          have e2 := (hA 15 1 (by kernel_rfl) (by simp)).trans (show f 1 = _ from hf 1 (by kernel_rfl))
          refine Ri.wp_call #[.agg #[.int .i64 n, .bool x, .bool y, .slice A0 len cap], .agg #[.int .i64 m, .bool u, .bool v, .slice B0 k d]] rfl (by simp [e1, e2]) Try.func14 (by kernel_rfl) (by kernel_rfl) ((HS1.out W (HQ4.out.trans hq)).mono ?_)
          rintro e w9 ⟨rfl, h1⟩
          exact ⟨_, rfl, h1, rfl⟩
        · refine Ri.StepZ.q (by kernel_rfl) rfl fun f W hq hf A hA hB hO => ?_
          have e1 := (hB 2 (by kernel_rfl)).trans (show _ = .pointer (some ⟨w.heap.size, 0, none⟩) by simp [Act.eval])
          have h0 := (hq.facts.1 _ 0 hs0).trans k0
          have h1 := (hq.facts.1 _ 1 hs0).trans k1
          have h2 := (hq.facts.1 _ 2 hs0).trans k2
          have h3 := (hq.facts.1 _ 3 hs0).trans k3
          exact Ri.wp_value _ (Ri.run_ldagg (cs := [.int .i64 n, .bool x, .bool y, .slice A0 len cap]) rfl e1 (c4L h0 h1 h2 h3) Try.underlying31 rfl (by kernel_rfl)) rfl
        · refine Ri.StepZ.q (by kernel_rfl) rfl fun f W hq hf A hA hB hO => ?_
          have e1 := (hB 3 (by kernel_rfl)).trans (show _ = .pointer (some ⟨w.heap.size + 1, 0, none⟩) by simp [Act.eval])
          have h0 := (hq.facts.1 _ 0 hs1).trans t0
          have h1 := (hq.facts.1 _ 1 hs1).trans t1
          have h2 := (hq.facts.1 _ 2 hs1).trans t2
          have h3 := (hq.facts.1 _ 3 hs1).trans t3
          exact Ri.wp_value _ (Ri.run_ldagg (cs := [.int .i64 m, .bool u, .bool v, .slice B0 k d]) rfl e1 (c4L h0 h1 h2 h3) Try.underlying31 rfl (by kernel_rfl)) rfl
        · refine Ri.StepZ.q (by kernel_rfl) rfl fun f W hq hf A hA hB hO => ?_
          have e1 := (hA 17 3 (by kernel_rfl) (by simp)).trans (show f 3 = _ from hf 3 (by kernel_rfl))
          have e2 := (hA 18 4 (by kernel_rfl) (by simp)).trans (show f 4 = _ from hf 4 (by kernel_rfl))
          refine Ri.wp_call #[.agg #[.int .i64 n, .bool x, .bool y, .slice A0 len cap], .agg #[.int .i64 m, .bool u, .bool v, .slice B0 k d]] rfl (by simp [e1, e2]) Try.func22 (by kernel_rfl) (by kernel_rfl) ((HS2.out W (HQ4.out.trans hq)).mono ?_)
          rintro e w9 ⟨rfl, h1⟩
          exact ⟨_, rfl, h1, rfl⟩
        · refine Ri.StepZ.q (by kernel_rfl) rfl fun f W hq hf A hA hB hO => ?_
          have e1 := (hA 16 2 (by kernel_rfl) (by simp)).trans (show f 2 = _ from hf 2 (by kernel_rfl))
          have e2 := (hA 19 5 (by kernel_rfl) (by simp)).trans (show f 5 = _ from hf 5 (by kernel_rfl))
          exact Ri.wp_value _ ((Ri.run_eqlB rfl e1 e2 Try.underlying4).trans (by rw [dr])) rfl
        · refine Ri.StepZ.q (by kernel_rfl) rfl fun f W hq hf A hA hB hO => ?_
          have e1 := (hA 20 6 (by kernel_rfl) (by simp)).trans (show f 6 = _ from hf 6 (by kernel_rfl))
          exact Ri.wp_value _ (Ri.run_mv rfl e1) rfl
        · refine Ri.StepZ.gq (by kernel_rfl) rfl rfl (by simp) fun f W hq hf A hA hB hO => ⟨hf 7 (by kernel_rfl), ?_⟩
          have e1 := (hB 2 (by kernel_rfl)).trans (show _ = .pointer (some ⟨w.heap.size, 0, none⟩) by simp [Act.eval])
          have h0 := (hq.facts.1 _ 0 hs0).trans k0
          have h1 := (hq.facts.1 _ 1 hs0).trans k1
          have h2 := (hq.facts.1 _ 2 hs0).trans k2
          have h3 := (hq.facts.1 _ 3 hs0).trans k3
          exact Ri.wp_value _ (Ri.run_ldagg (cs := [.int .i64 n, .bool x, .bool y, .slice A0 len cap]) rfl e1 (c4L h0 h1 h2 h3) Try.underlying31 rfl (by kernel_rfl)) rfl
        · refine Ri.StepZ.gq (by kernel_rfl) rfl rfl (by simp) fun f W hq hf A hA hB hO => ⟨hf 7 (by kernel_rfl), ?_⟩
          have e1 := (hB 2 (by kernel_rfl)).trans (show _ = .pointer (some ⟨w.heap.size, 0, none⟩) by simp [Act.eval])
          have h0 := (hq.facts.1 _ 0 hs0).trans k0
          have h1 := (hq.facts.1 _ 1 hs0).trans k1
          have h2 := (hq.facts.1 _ 2 hs0).trans k2
          have h3 := (hq.facts.1 _ 3 hs0).trans k3
          exact Ri.wp_value _ (Ri.run_ldagg (cs := [.int .i64 n, .bool x, .bool y, .slice A0 len cap]) rfl e1 (c4L h0 h1 h2 h3) Try.underlying31 rfl (by kernel_rfl)) rfl
        · refine Ri.StepZ.gq (by kernel_rfl) rfl rfl (by simp) fun f W hq hf A hA hB hO => ⟨hf 7 (by kernel_rfl), ?_⟩
          have e1 := (hA 22 8 (by kernel_rfl) (by simp)).trans (show f 8 = _ from hf 8 (by kernel_rfl))
          have e2 := (hA 23 9 (by kernel_rfl) (by simp)).trans (show f 9 = _ from hf 9 (by kernel_rfl))
          refine Ri.wp_call #[.agg #[.int .i64 n, .bool x, .bool y, .slice A0 len cap], .agg #[.int .i64 n, .bool x, .bool y, .slice A0 len cap]] rfl (by simp [e1, e2]) Try.func14 (by kernel_rfl) (by kernel_rfl) ((HS3.out W (HQ4.out.trans hq)).mono ?_)
          rintro e w9 ⟨rfl, h1⟩
          exact ⟨_, rfl, h1, rfl⟩
        · refine Ri.StepZ.q (by kernel_rfl) rfl fun f W hq hf A hA hB hO => ?_
          have e1 := (hA 21 7 (by kernel_rfl) (by simp)).trans (show f 7 = _ from hf 7 (by kernel_rfl))
          have e2 := (hA 24 10 (by kernel_rfl) (by simp)).trans (show f 10 = _ from hf 10 (by kernel_rfl))
          exact Ri.wp_value _ (Ri.run_pick rfl e1 (by simpa using e2)) rfl
        · refine Ri.StepZ.q (by kernel_rfl) rfl fun f W hq hf A hA hB hO => ?_
          have e1 := (hA 25 11 (by kernel_rfl) (by simp)).trans (show f 11 = _ from hf 11 (by kernel_rfl))
          exact Ri.wp_value _ (Ri.run_mv rfl e1) rfl
        · refine Ri.StepZ.gq (by kernel_rfl) rfl rfl (by simp) fun f W hq hf A hA hB hO => ⟨hf 12 (by kernel_rfl), ?_⟩
          refine Ri.wp_call #[] rfl (by simp) Try.func21 (by kernel_rfl) (by kernel_rfl) ((HKN.out W).mono ?_)
          rintro e w9 ⟨rfl, h1⟩
          exact ⟨_, rfl, h1, rfl⟩
        · refine Ri.StepZ.q (by kernel_rfl) rfl fun f W hq hf A hA hB hO => ?_
          have e1 := (hA 26 12 (by kernel_rfl) (by simp)).trans (show f 12 = _ from hf 12 (by kernel_rfl))
          have e2 := (hA 27 13 (by kernel_rfl) (by simp)).trans (show f 13 = _ from hf 13 (by kernel_rfl))
          exact Ri.wp_value _ (Ri.run_pick rfl e1 (by simpa using e2)) rfl
        · refine Ri.StepZ.q (by kernel_rfl) rfl fun f W hq hf A hA hB hO => ?_
          have e1 := (hA 28 14 (by kernel_rfl) (by simp)).trans (show f 14 = _ from hf 14 (by kernel_rfl))
          exact Ri.wp_value _ (Ri.run_asg rfl e1) rfl
      · intro f W hq hf
        have e15 : f 15 = .bool true := hf 15 (by decide) (by kernel_rfl)
        simp only [Ri.acts, Act.put, List.setIfInBounds_toArray, List.set_cons_zero, List.set_cons_succ, Nat.zero_add, Nat.reduceAdd]
        rw [e15]
        have HXW := hide hq
        clear hf hq e15
        clear k0 k1 k2 k3 t0 t1 t2 t3
        go_wp2_with fail
        go_ret
        exact ⟨rfl, HQ4.out.trans HXW.out⟩
theorem cel_v (c : Cel) : Value.agg (encC c).toArray = c.v := by cases c; rfl
theorem CellSames_row (a b : Cel) (w : World) (ha : CelR w a) (hb : CelR w b) : Calls Try.prog 4 #[.agg (encC a).toArray, .agg (encC b).toArray] w fun e w' => e = .returned (.bool true) ∧ Q w w' := by
  rw [cel_v, cel_v]
  exact CellSames_true a b w ha hb
end Go.Proofs.Ytbgbalfhbficaaa
