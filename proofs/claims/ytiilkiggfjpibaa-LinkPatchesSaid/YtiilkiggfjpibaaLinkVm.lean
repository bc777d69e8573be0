/- The walk of the program's stretches. Conditions: the objects read as such and are valid; the change's cells hold them. -/
import Derived.Test.YtiilkiggfjpibaaLinkVl
namespace Go.Proofs.Ytiilkiggfjpibaa
open Go.RowKit LK
set_option linter.unusedVariables false
set_option linter.unusedSimpArgs false
namespace Ri
theorem run_addJ {P : Program} {o : Oper} {A : Act} {w : World} {x y : Operand} {t t' : TypeId} {p u : Int} (ho : o.op = .binOp .add t x y t') (hx : A.eval x = .int .i64 p) (hy : A.eval y = .int .i64 u) (hu : P.underlying t = some (.int .i64)) (h0 : -9223372036854775808 ≤ p + u) (h1 : p + u ≤ 9223372036854775807) : (execOp A.eval o).run P w = .ok (.value (.int .i64 (p + u))) w := by
  have e : IntKind.i64.wrap (p + u) = p + u := by rw [IntKind.wrap_i64]; omega
  unfold execOp
  simp only [ho, hx, hy]
  simp [go_sem, e]
theorem run_leq {P : Program} {o : Oper} {A : Act} {w : World} {x y : Operand} {t t' : TypeId} {p u : Int} (ho : o.op = .binOp .leq t x y t') (hx : A.eval x = .int .i64 p) (hy : A.eval y = .int .i64 u) (hu : P.underlying t = some (.int .i64)) : (execOp A.eval o).run P w = .ok (.value (.bool (decide (p ≤ u)))) w := by
  unfold execOp
  simp only [ho, hx, hy]
  simp [go_sem]
theorem run_aidx {P : Program} {o : Oper} {A : Act} {w : World} {t e : TypeId} {x y : Operand} {g off k m sz : Nat} (ho : o.op = .indexAddr t x y) (hx : A.eval x = .pointer (some ⟨g, off, none⟩)) (hy : A.eval y = .int .i64 (k : Int)) (hu : P.underlying t = some (.array m e)) (hs : (P.info? e).map (·.size) = some sz) (hk : k < m) :
    (execOp A.eval o).run P w = .ok (.value (.pointer (some ⟨g, off + k * sz, none⟩))) w := by
  have hsz : (sizeOf e).run P w = .ok sz w := by
    cases hq : P.info? e with
    | none => simp [hq] at hs
    | some i => simp [hq] at hs; simp [sizeOf, typeInfo, hq, hs]
  unfold execOp
  simp only [ho, hx, hy]
  have h1 : (k : Int) < (m : Int) := by omega
  simp [Instr.indexAt, run_underlying hu, Instr.sureAddr, asIntOf, hsz, hk, addr_add, Sem.run_bind]
end Ri
theorem fill_st (a b : Int) : Instr.fill (fun i => some (i * 2, 2)) (Array.map (fun x => (Value.agg #[Value.int .i64 0, Value.int .i64 0]).cells[x % (Value.agg #[Value.int .i64 0, Value.int .i64 0]).cells.size]!) (Array.range (1 * 2))) [(0, Value.agg #[.int .i64 a, .int .i64 b])] = some #[.int .i64 a, .int .i64 b] := by kernel_rfl
/-- what stretches hands back -/
def StrP (w : World) (os : List OV) (i : Nat) (o p : OV) (e : Ending) (w' : World) : Prop :=
  Q w w' ∧ ∃ (ts : List St) (g c : Nat), ts.Perm (rawTo os i (wantS o p) os.length) ∧ ts.Pairwise (fun a b => a.1.val ≤ b.1.val) ∧ e = .returned (.slice (some ⟨g, 0, none⟩) (mergeS ts).length c) ∧ w.heap.size ≤ g ∧ Sl 2 encP w' (some ⟨g, 0, none⟩) (mergeS ts).length c (mergeS ts)
set_option maxRecDepth 100000 in
set_option maxHeartbeats 4000000 in
theorem stretches_any (A : Option Addr) (n c : Nat) (os : List OV) (As : Option Addr) (cs mb : Nat) (i : Nat) (o p : OV) (w : World) (hO : ObsR w A n c os) (ho : ObR w o) (hi : i < n) (hn : n ≤ 8) (hp : os[i]? = some p) (hv : ∀ p ∈ os, p.valid = 0) (hov : o.valid = 0) (hS : Rd w w.heap.size As ((startsL os (n + 1)).map (Value.int .i64))) (hcs : n + 1 ≤ cs) :
    Calls Try.prog 52 #[.agg #[.slice A n c, .slice As (n + 1) cs, .map (some mb), .int .i64 (i : Nat), o.1.val, o.2.1.val, o.2.2.val]] w (StrP w os i o p) := by
  have HOS := hide hO
  have hl := hO.sl.len
  have hpv := hv p (List.mem_of_getElem? hp)
  have hpo := hO.all p (List.mem_of_getElem? hp)
  have hol : o.2.1.n ≤ 16 := (valid_parts ho.s.len hov).2.1
  have hpl : p.2.1.n ≤ 16 := (valid_parts hpo.s.len hpv).2.1
  have HH1 := hide (fun W nm (h : Q w W) => has_any o nm W (ho.up h) (by omega))
  have HH2 := hide (fun W nm (h : Q w W) => has_any p nm W (hpo.up h) (by omega))
  have HOFF := hide (fun k => offF_le (os := os) (fun o ho => (valid_parts (hO.all o ho).s.len (hv o ho)).1) k)
  have HLEN := hide (fun k => rawTo_len (os := os) (i := i) (f := wantS o p) (fun q hq => wnt_len (hv q hq)) k)
  have HV := hide hv
  have HLL := hide hl
  obtain ⟨sb, so, rfl, hsb0, hsc⟩ := hS.at_ (by simp [startsL])
  have HSC : Hid (∀ k, k ≤ n → w.cell? ⟨sb, so + k, none⟩ = some (.int .i64 (offF (os.take k) : Nat))) := hide fun k hk => by
    rw [hsc k (by simp [startsL]; omega)]
    simp [startsL]
  obtain ⟨fi, hfi⟩ : ∃ fi, offF (os.take i) = fi := ⟨_, rfl⟩
  obtain ⟨fj, hfj⟩ : ∃ fj, offF (os.take (i + 1)) = fj := ⟨_, rfl⟩
  have SC1' := HSC.out i (by omega)
  have SC2' := HSC.out (i + 1) (by omega)
  rw [hfi] at SC1'
  rw [hfj] at SC2'
  have hfi0 := HOFF.out i
  have hfj0 := HOFF.out (i + 1)
  rw [hfi] at hfi0
  rw [hfj] at hfj0
  have hfib : fi < 65536 := by omega
  have hfjb : fj < 65536 := by omega
  have HR0 : Hid ([.int .i64 (fi : Nat), .int .i64 (fj : Nat)] = (rawTo os i (wantS o p) 0).flatMap encP) := hide (by
    unfold rawTo
    rw [hfi, hfj]
    simp only [List.range_zero, List.flatMap_nil, List.flatMap_cons, List.append_nil]
    exact (enc_mk hfib hfjb).symm)
  obtain ⟨f0, hf0⟩ : ∃ f0, wantS o p = f0 := ⟨_, rfl⟩
  have HF0 : Hid (∀ x : Wnt, f0 x = (hasN o x.2.2 || hasN p x.2.2)) := hide fun x => by rw [← hf0]; rfl
  have HN1 : Hid (∀ nm, hasN o nm = o.2.1.xs.any fun y => y.1.toList == nm.toList) := hide fun nm => rfl
  have HN2 : Hid (∀ nm, hasN p nm = p.2.1.xs.any fun y => y.1.toList == nm.toList) := hide fun nm => rfl
  unfold StrP
  rw [hf0] at HLEN HR0 ⊢
  simp only [← HN1.out] at HH1
  simp only [← HN2.out] at HH2
  obtain ⟨h1f, hh1⟩ : ∃ h1f, hasN o = h1f := ⟨_, rfl⟩
  obtain ⟨h2f, hh2⟩ : ∃ h2f, hasN p = h2f := ⟨_, rfl⟩
  rw [hh1] at HH1 HF0
  rw [hh2] at HH2 HF0
  clear HN1 HN2
  obtain ⟨⟨A0, n0, c0, bs⟩, ⟨A1, n1, c1, ss⟩, ⟨A2, n2, c2, ws⟩⟩ := o
  obtain ⟨ba, oa, ob, rfl, hba0, g1, p1, p2, p3, hob⟩ := hO.at_ i hi
  obtain rfl : ob = p := by have := g1.symm.trans hp; injection this
  obtain ⟨⟨B0, m0, d0, bt⟩, ⟨B1, m1, d1, st⟩, ⟨B2, m2, d2, wt⟩⟩ := ob
  dsimp only at p1 p2 p3
  unfold obV SlV.val at HH1 HH2
  unfold SlV.val
  dsimp only at HH1 HH2 ⊢
  have O1 := hide p1
  have O2 := hide p2
  have O3 := hide p3
  obtain ⟨w1, hw1⟩ : ∃ w1, w.alloc (.cells #[.slice (some ⟨ba, oa, none⟩) n c, .slice (some ⟨sb, so, none⟩) (n + 1) cs, .map (some mb), .int .i64 (i : Nat), .slice A0 n0 c0, .slice A1 n1 c1, .slice A2 n2 c2] 83) = w1 := ⟨_, rfl⟩
  have hq1 : Q w w1 := by rw [← hw1]; exact (Q.refl w).alloc _
  have hs1 : w.heap.size < w1.heap.size := by rw [← hw1]; simp
  have K0 := hide (show w1.cell? ⟨w.heap.size, 0, none⟩ = some (.slice (some ⟨ba, oa, none⟩) n c) by rw [← hw1]; simp)
  have K1 := hide (show w1.cell? ⟨w.heap.size, 1, none⟩ = some (.slice (some ⟨sb, so, none⟩) (n + 1) cs) by rw [← hw1]; simp)
  have K3 := hide (show w1.cell? ⟨w.heap.size, 3, none⟩ = some (.int .i64 (i : Nat)) by rw [← hw1]; simp)
  have K4 := hide (show w1.cell? ⟨w.heap.size, 4, none⟩ = some (.slice A0 n0 c0) by rw [← hw1]; simp)
  have K5 := hide (show w1.cell? ⟨w.heap.size, 5, none⟩ = some (.slice A1 n1 c1) by rw [← hw1]; simp)
  have K6 := hide (show w1.cell? ⟨w.heap.size, 6, none⟩ = some (.slice A2 n2 c2) by rw [← hw1]; simp)
  have hsb1 : sb < w1.heap.size := by omega
  have hba1 : ba < w1.heap.size := by omega
  have SC1 := hide ((hq1.facts.1 _ _ hsb0).trans SC1')
  have SC2 := hide ((hq1.facts.1 _ _ hsb0).trans SC2')
  have HQ1 := hide hq1
  have HW1 := hide hw1
  have HII := hide hi
  have hni : (n : Int) ≤ 8 := by omega
  have hii : (i : Int) < (n : Int) := by omega
  clear hO ho hp hv hov hS hl hpv hpo hol hpl hsc SC1' SC2' hfi0 hfj0 hfi hfj hfib hfjb hf0 hh1 hh2 g1 hob p1 p2 p3 hq1 hw1
  go_enter Try.func52, Try.ntmps52
  go_upto_region 1 with fail
  rw [HW1.out]
  refine Ri.made (Ri.phi [Ri.isV (.pointer (some ⟨w.heap.size, 0, none⟩)), Ri.isV (.pointer (some ⟨w.heap.size, 1, none⟩)), Ri.isV (.slice (some ⟨sb, so, none⟩) (n + 1) cs), Ri.isV (.pointer (some ⟨w.heap.size, 3, none⟩)), Ri.isV (.int .i64 (i : Int)), Ri.isV (.pointer (some ⟨sb, so + i * 1, none⟩)), Ri.isV (.int .i64 (fi : Int)), Ri.isV (.pointer (some ⟨w.heap.size, 0, none⟩)), Ri.isV (.pointer (some ⟨w.heap.size, 1, none⟩)), Ri.isV (.slice (some ⟨sb, so, none⟩) (n + 1) cs), Ri.isV (.pointer (some ⟨w.heap.size, 3, none⟩)), Ri.isV (.int .i64 (i : Int)), Ri.isV (.int .i64 ((i + 1 : Nat) : Int)), Ri.isV (.pointer (some ⟨sb, so + (i + 1) * 1, none⟩)), Ri.isV (.int .i64 (fj : Int)), Ri.isV (.agg #[.int .i64 (fi : Int), .int .i64 (fj : Int)]), (fun v W => ∃ b, v = .slice (some ⟨b, 0, none⟩) 1 1 ∧ W.ownsRow w1.heap.size 74 2 v 1 [.int .i64 (fi : Nat), .int .i64 (fj : Nat)]), (fun v W => ∃ b, v = .slice (some ⟨b, 0, none⟩) 1 1 ∧ W.ownsRow w1.heap.size 74 2 v 1 [.int .i64 (fi : Nat), .int .i64 (fj : Nat)])]) (by kernel_rfl) (by kernel_rfl) (Ri.phi_mono ?_) ?_ ?_
  · exact ⟨Ri.mono_isV _, Ri.mono_isV _, Ri.mono_isV _, Ri.mono_isV _, Ri.mono_isV _, Ri.mono_isV _, Ri.mono_isV _, Ri.mono_isV _, Ri.mono_isV _, Ri.mono_isV _, Ri.mono_isV _, Ri.mono_isV _, Ri.mono_isV _, Ri.mono_isV _, Ri.mono_isV _, Ri.mono_isV _, (fun _ w3 w4 ⟨b, e, h⟩ hq => ⟨b, e, own_q h hq⟩), (fun _ w3 w4 ⟨b, e, h⟩ hq => ⟨b, e, own_q h hq⟩), trivial⟩
  · refine Ri.All.cons ?_ (Ri.All.cons ?_ (Ri.All.cons ?_ (Ri.All.cons ?_ (Ri.All.cons ?_ (Ri.All.cons ?_ (Ri.All.cons ?_ (Ri.All.cons ?_ (Ri.All.cons ?_ (Ri.All.cons ?_ (Ri.All.cons ?_ (Ri.All.cons ?_ (Ri.All.cons ?_ (Ri.All.cons ?_ (Ri.All.cons ?_ (Ri.All.cons ?_ (Ri.All.cons ?_ (Ri.All.cons ?_ (Ri.All.nil))))))))))))))))))
    · refine ⟨rfl, fun f W hq hf A hA hB hO => ?_⟩
      have e1 := (hB 1 (by kernel_rfl)).trans (show _ = .pointer (some ⟨w.heap.size, 0, none⟩) by simp [Act.eval])
      exact Ri.wp_value _ (Ri.run_fld (f := _) rfl e1 Try.underlying83 rfl (sz := 2) (by kernel_rfl)) rfl
    · refine ⟨rfl, fun f W hq hf A hA hB hO => ?_⟩
      have e1 := (hA 13 0 (by kernel_rfl) (by simp)).trans (show f 0 = _ from hf 0 (by kernel_rfl))
      exact Ri.wp_value _ (Ri.run_fld (f := _) rfl e1 Try.underlying78 rfl (sz := 0) (by kernel_rfl)) rfl
    · refine ⟨rfl, fun f W hq hf A hA hB hO => ?_⟩
      have e1 := (hA 14 1 (by kernel_rfl) (by simp)).trans (show f 1 = _ from hf 1 (by kernel_rfl))
      exact Ri.wp_value _ (Ri.run_ld1 rfl e1 Try.underlying26 rfl ((hq.facts.1 _ 1 hs1).trans K1.out)) rfl
    · refine ⟨rfl, fun f W hq hf A hA hB hO => ?_⟩
      have e1 := (hB 1 (by kernel_rfl)).trans (show _ = .pointer (some ⟨w.heap.size, 0, none⟩) by simp [Act.eval])
      exact Ri.wp_value _ (Ri.run_fld (f := _) rfl e1 Try.underlying83 rfl (sz := 0) (by kernel_rfl)) rfl
    · refine ⟨rfl, fun f W hq hf A hA hB hO => ?_⟩
      have e1 := (hA 16 3 (by kernel_rfl) (by simp)).trans (show f 3 = _ from hf 3 (by kernel_rfl))
      exact Ri.wp_value _ (Ri.run_ld1 rfl e1 Try.underlying3 rfl ((hq.facts.1 _ 3 hs1).trans K3.out)) rfl
    · refine ⟨rfl, fun f W hq hf A hA hB hO => ?_⟩
      have e1 := (hA 15 2 (by kernel_rfl) (by simp)).trans (show f 2 = _ from hf 2 (by kernel_rfl))
      have e2 := (hA 17 4 (by kernel_rfl) (by simp)).trans (show f 4 = _ from hf 4 (by kernel_rfl))
      exact Ri.wp_value _ (Ri.run_idx rfl e1 e2 Try.underlying26 (sz := 1) (by kernel_rfl) (Nat.lt_succ_of_lt HII.out)) rfl
    · refine ⟨rfl, fun f W hq hf A hA hB hO => ?_⟩
      have e1 := (hA 18 5 (by kernel_rfl) (by simp)).trans (show f 5 = _ from hf 5 (by kernel_rfl))
      exact Ri.wp_value _ (Ri.run_ld1 rfl e1 Try.underlying3 rfl ((hq.facts.1 _ _ hsb1).trans (by rw [Nat.mul_one]; exact SC1.out))) rfl
    · refine ⟨rfl, fun f W hq hf A hA hB hO => ?_⟩
      have e1 := (hB 1 (by kernel_rfl)).trans (show _ = .pointer (some ⟨w.heap.size, 0, none⟩) by simp [Act.eval])
      exact Ri.wp_value _ (Ri.run_fld (f := _) rfl e1 Try.underlying83 rfl (sz := 2) (by kernel_rfl)) rfl
    · refine ⟨rfl, fun f W hq hf A hA hB hO => ?_⟩
      have e1 := (hA 20 7 (by kernel_rfl) (by simp)).trans (show f 7 = _ from hf 7 (by kernel_rfl))
      exact Ri.wp_value _ (Ri.run_fld (f := _) rfl e1 Try.underlying78 rfl (sz := 0) (by kernel_rfl)) rfl
    · refine ⟨rfl, fun f W hq hf A hA hB hO => ?_⟩
      have e1 := (hA 21 8 (by kernel_rfl) (by simp)).trans (show f 8 = _ from hf 8 (by kernel_rfl))
      exact Ri.wp_value _ (Ri.run_ld1 rfl e1 Try.underlying26 rfl ((hq.facts.1 _ 1 hs1).trans K1.out)) rfl
    · refine ⟨rfl, fun f W hq hf A hA hB hO => ?_⟩
      have e1 := (hB 1 (by kernel_rfl)).trans (show _ = .pointer (some ⟨w.heap.size, 0, none⟩) by simp [Act.eval])
      exact Ri.wp_value _ (Ri.run_fld (f := _) rfl e1 Try.underlying83 rfl (sz := 0) (by kernel_rfl)) rfl
    · refine ⟨rfl, fun f W hq hf A hA hB hO => ?_⟩
      have e1 := (hA 23 10 (by kernel_rfl) (by simp)).trans (show f 10 = _ from hf 10 (by kernel_rfl))
      exact Ri.wp_value _ (Ri.run_ld1 rfl e1 Try.underlying3 rfl ((hq.facts.1 _ 3 hs1).trans K3.out)) rfl
    · refine ⟨rfl, fun f W hq hf A hA hB hO => ?_⟩
      have e1 := (hA 24 11 (by kernel_rfl) (by simp)).trans (show f 11 = _ from hf 11 (by kernel_rfl))
      exact Ri.wp_value _ ((Ri.run_addJ rfl e1 rfl Try.underlying3 (by omega) (by omega)).trans (by simp)) rfl
    · refine ⟨rfl, fun f W hq hf A hA hB hO => ?_⟩
      have e1 := (hA 22 9 (by kernel_rfl) (by simp)).trans (show f 9 = _ from hf 9 (by kernel_rfl))
      have e2 := (hA 25 12 (by kernel_rfl) (by simp)).trans (show f 12 = _ from hf 12 (by kernel_rfl))
      exact Ri.wp_value _ (Ri.run_idx rfl e1 e2 Try.underlying26 (sz := 1) (by kernel_rfl) (Nat.succ_lt_succ HII.out)) rfl
    · refine ⟨rfl, fun f W hq hf A hA hB hO => ?_⟩
      have e1 := (hA 26 13 (by kernel_rfl) (by simp)).trans (show f 13 = _ from hf 13 (by kernel_rfl))
      exact Ri.wp_value _ (Ri.run_ld1 rfl e1 Try.underlying3 rfl ((hq.facts.1 _ _ hsb1).trans (by rw [Nat.mul_one]; exact SC2.out))) rfl
    · refine ⟨rfl, fun f W hq hf A hA hB hO => ?_⟩
      have e1 := (hA 19 6 (by kernel_rfl) (by simp)).trans (show f 6 = _ from hf 6 (by kernel_rfl))
      have e2 := (hA 27 14 (by kernel_rfl) (by simp)).trans (show f 14 = _ from hf 14 (by kernel_rfl))
      exact Ri.wp_struct rfl [(0, .int .i64 (fi : Int)), (1, .int .i64 (fj : Int))] (by simp [e1, e2]) (by kernel_rfl) rfl
    · refine ⟨rfl, fun f W hq hf A hA hB hO => ?_⟩
      have e1 := (hA 28 15 (by kernel_rfl) (by simp)).trans (show f 15 = _ from hf 15 (by kernel_rfl))
      obtain ⟨ti, hi9, hz9, hsz9, hby9⟩ := info_parts (show (Try.prog.info? 74).map (fun i => (i.zero, i.size, i.bytes)) = some (some (.agg #[.int .i64 0, .int .i64 0]), 2, 16) by kernel_rfl)
      refine wp_buildSlice 70 74 1 _ rfl #[.int .i64 (fi : Int), .int .i64 (fj : Int)] ti _ Try.underlying70 hi9 hz9 (by rw [hsz9]; decide) (by rw [hsz9]; decide) ?_ ⟨_, rfl, (Q.refl W).alloc _, W.heap.size, rfl, World.ownsRow_lit W #[.int .i64 (fi : Int), .int .i64 (fj : Int)] 1 hq.size (by decide) rfl⟩
      rw [hsz9]
      simp only [List.map_toArray, List.map_cons, List.map_nil, e1]
      exact fill_st _ _
    · refine ⟨rfl, fun f W hq hf A hA hB hO => ?_⟩
      obtain ⟨b9, hb9, ho9⟩ : ∃ b, f 16 = .slice (some ⟨b, 0, none⟩) 1 1 ∧ W.ownsRow w1.heap.size 74 2 (f 16) 1 [.int .i64 (fi : Nat), .int .i64 (fj : Nat)] := hf 16 (by kernel_rfl)
      have e1 := (hA 29 16 (by kernel_rfl) (by simp)).trans hb9
      exact Ri.wp_value _ (Ri.run_asg rfl e1) ⟨b9, rfl, hb9 ▸ ho9⟩
  · intro f W hq hf
    obtain ⟨b9, e17, ho9⟩ : ∃ b, f 17 = .slice (some ⟨b, 0, none⟩) 1 1 ∧ W.ownsRow w1.heap.size 74 2 (f 17) 1 [.int .i64 (fi : Nat), .int .i64 (fj : Nat)] := hf 17 (by simp)
    simp only [Ri.acts, Act.put, List.setIfInBounds_toArray, List.set_cons_zero, List.set_cons_succ, Nat.zero_add, Nat.reduceAdd]
    rw [e17] at ho9 ⊢
    have HXW := hide hq
    have HOW := hide ho9
    clear hf hq e17 ho9
    rw [HR0.out] at HOW
    have k0 := (HXW.out.facts.1 _ 0 hs1).trans K0.out
    have HOW1 : Hid (W.ownsRow w1.heap.size 74 2 (.slice (some ⟨b9, 0, none⟩) 1 1) (rawTo os i f0 0).length ((rawTo os i f0 0).flatMap encP)) := HOW
    clear HOW HR0
    go_wp2_with fail
    clear k0
    go_loopw [3, 34] (fun v3 vi wr => ∃ k : Nat, k ≤ n ∧ vi = .int .i64 k ∧ Q w1 wr ∧ wr.ownsRow w1.heap.size 74 2 v3 (rawTo os i f0 k).length ((rawTo os i f0 k).flatMap encP)) (fun _ vi _ => n - (intOf vi).toNat)
    case atStart => exact ⟨0, by omega, by go_num, HXW.out, HOW1.out⟩
    case round =>
      obtain ⟨k, hk, rfl, hq, hown⟩ := hrel
      obtain ⟨wo, rfl⟩ : ∃ wo : World, wo = wr := ⟨_, rfl⟩
      have HQO := hide hq
      obtain ⟨R0, hR0⟩ : ∃ R0, rawTo os i f0 k = R0 := ⟨_, rfl⟩
      have hlen := HLEN.out k
      rw [hR0] at hown hlen
      have HR0K := hide hR0
      have HLR := hide (show R0.length ≤ 129 by omega)
      obtain ⟨m, hm⟩ : ∃ m, R0.length = m := ⟨_, rfl⟩
      rw [hm] at hown
      have HMM := hide hm
      clear hR0 hlen hm
      have HOO := hide hown
      obtain ⟨V3, cv3, e3, -⟩ := own_form hown
      subst e3
      clear hq hown HOW1 HXW
      by_cases hlt : k < n
      · have hd1 : decide ((k : Int) < (n : Int)) = true := by simp; omega
        have hd0 : decide (k < n) = true := by simp; omega
        have hlti : (k : Int) < (n : Int) := by omega
        have HKN := hide hlt
        obtain ⟨b1, o1, ob, e1, hb1, g1, x1, x2, x3, hob⟩ := (HOS.out.up (HQ1.out.trans HQO.out)).at_ k hlt
        cases e1
        have HVK := hide (HV.out _ (List.mem_of_getElem? g1))
        obtain ⟨⟨C0, r0, f0c, bq⟩, ⟨C1, r1, f1c, sq⟩, ⟨C2, r2, f2c, wq⟩⟩ := ob
        dsimp only at x1 x2 x3
        have HT := hide hob.t
        have HTOK := hide hob.tok
        have HTQ : Hid (∀ W, Q w1 W → Sl 3 encWnt W C2 r2 f2c wq) := hide fun W h => ((HOS.out.up (HQ1.out.trans h)).all _ (List.mem_of_getElem? g1)).t
        have htl := hob.t.len
        have htm := hob.t.most
        have htc := hob.t.cap
        have hwl := wnt_len HVK.out
        have hbl := (valid_parts hob.s.len HVK.out).1
        dsimp only at htl htm htc hwl hbl
        have hr2 : r2 ≤ 16 := by omega
        have hr2i : (r2 : Int) ≤ 16 := by omega
        have G1 := hide g1
        obtain ⟨ofk, hofe⟩ : ∃ ofk, offF (os.take k) = ofk := ⟨_, rfl⟩
        have hofk := HOFF.out k
        have hsck := HSC.out k hk
        rw [hofe] at hofk hsck
        have HOE := hide hofe
        have SC3 := hide ((HQ1.out.facts.1 _ _ hsb0).trans hsck)
        obtain ⟨wa, hwa⟩ : ∃ wa, wo.alloc (.cells #[.slice C0 r0 f0c, .slice C1 r1 f1c, .slice C2 r2 f2c] 34) = wa := ⟨_, rfl⟩
        have hqa : Q wo wa := by rw [← hwa]; exact (Q.refl wo).alloc _
        have HWA := hide hwa
        have HQA := hide (HQO.out.trans hqa)
        have HOA := hide (own_q HOO.out hqa)
        have HTA := hide (show Sl 3 encWnt wa C2 r2 f2c wq from HT.out.up hqa)
        have HSTA : Hid (strAt os i f0 k = if k = i then [] else strW f0 ofk wq) := hide (by unfold strAt; rw [G1.out]; dsimp only; rw [HOE.out])
        have HRS : Hid (rawTo os i f0 (k + 1) = R0 ++ if k = i then [] else strW f0 ofk wq) := hide (by rw [rawTo_succ, HR0K.out, HSTA.out])
        clear hob g1 hofe hsck hwa hqa HSTA
        go_wp2_with fail
        rw [HWA.out]
        by_cases hki : k = i
        · have HKI := hide hki
          have t1 : ((k : Int) != (i : Int)) = false := by rw [hki]; simp
          go_loopw [3, 42] (fun v3 vj wx => ∃ j : Nat, j ≤ r2 ∧ vj = .int .i64 j ∧ Q w1 wx ∧ wx.ownsRow w1.heap.size 74 2 v3 m (R0.flatMap encP)) (fun _ vj _ => r2 - (intOf vj).toNat)
          case atStart => exact ⟨0, by omega, by go_num, HQA.out, HOA.out⟩
          case round =>
            obtain ⟨j, hj, rfl, hqx, hownx⟩ := hrel
            obtain ⟨wx, rfl⟩ : ∃ wx : World, wx = wr := ⟨_, rfl⟩
            obtain ⟨V4, cv4, e4, -⟩ := own_form hownx
            subst e4
            have HQX := hide hqx
            have HOX := hide hownx
            clear hqx hownx
            by_cases hjn : j < r2
            · have hd1 : decide ((j : Int) < (r2 : Int)) = true := by simp; omega
              have hd0 : decide (j < r2) = true := by simp; omega
              have hlti : (j : Int) < (r2 : Int) := by omega
              have hwant := (show Sl 3 encWnt wx C2 r2 f2c wq from HTQ.out wx HQX.out).wnt j hjn
              obtain ⟨b4, o4, at_, kd, nm, e4, hb4, g4, y1w, y2w, y3w⟩ := hwant
              try dsimp only at e4 y1w y2w y3w g4
              subst e4
              have hat := wnt_at HVK.out (List.mem_of_getElem? g4)
              dsimp only at hat
              obtain ⟨an, rfl⟩ : ∃ an : Nat, at_ = (an : Int) := ⟨at_.toNat, by omega⟩
              have han : an + 4 ≤ 512 := by omega
              have G4 := hide g4
              obtain ⟨wb, hwb⟩ : ∃ wb, wx.alloc (.cells #[.int .i64 (an : Nat), .int .i64 kd, .string nm] 97) = wb := ⟨_, rfl⟩
              have hqb : Q wx wb := by rw [← hwb]; exact (Q.refl wx).alloc _
              have hbb : wb.heap[wx.heap.size]? = some (.cells #[.int .i64 (an : Nat), .int .i64 kd, .string nm] 97 (0, 0)) := by rw [← hwb]; exact heap_alloc_new wx _
              have u0 : wb.cell? ⟨wx.heap.size, 0, none⟩ = some (.int .i64 (an : Nat)) := cell_blkJ (j := 0) hbb rfl
              have u2 : wb.cell? ⟨wx.heap.size, 2, none⟩ = some (.string nm) := cell_blkJ (j := 2) hbb rfl
              have hxb : wx.heap.size < wb.heap.size := by rw [← hwb]; simp
              have HWB := hide hwb
              have HQXB := hide hqb
              have HQB := hide (HQX.out.trans hqb)
              have hsb : w.heap.size < wb.heap.size := by have := HQB.out.size; omega
              have hba : ba < wb.heap.size := by have := HQB.out.size; omega
              have y0 := (HQB.out.facts.1 _ 0 hs1).trans K0.out
              have y3 := (HQB.out.facts.1 _ 3 hs1).trans K3.out
              have y4 := (HQB.out.facts.1 _ 4 hs1).trans K4.out
              have y5 := (HQB.out.facts.1 _ 5 hs1).trans K5.out
              have y6 := (HQB.out.facts.1 _ 6 hs1).trans K6.out
              have p1 := ((HQ1.out.trans HQB.out).facts.1 _ _ hba0).trans O1.out
              have p2 := ((HQ1.out.trans HQB.out).facts.1 _ _ hba0).trans O2.out
              have p3 := ((HQ1.out.trans HQB.out).facts.1 _ _ hba0).trans O3.out
              clear hwb hqb hbb g4
              go_upto_region 8 with fail
              rw [HWB.out]
              have hxc := ext_cell
              refine wp_region_ext (by kernel_rfl) (by kernel_rfl) ?_
              repeat (go_big_quiet_step ((fail)))
              clear hxc
              refine wpQuiet_nil ?_
              intro wz hwwz
              have hqwz := q_of_ext hwwz
              clear hwwz
              obtain ⟨hcwz, hfwz, hzwz⟩ := hqwz.facts
              try simp at hzwz
              try have hs0wz : w.heap.size < wz.heap.size := by omega
              try have hs1wz : w.heap.size + 1 < wz.heap.size := by omega
              clear hcwz hfwz
              go_wp2_with fail
              go_roundw
              case rel => exact ⟨j + 1, by omega, by go_num, HQB.out.trans hqwz, own_q HOX.out (HQXB.out.trans hqwz)⟩
              case measure => simp [intOf] <;> omega
            · have hd1 : decide ((j : Int) < (r2 : Int)) = false := by simp; omega
              have hd0 : decide (j < r2) = false := by simp; omega
              obtain rfl : j = r2 := by omega
              go_wp2_with fail
              go_roundw
              case rel => exact ⟨k + 1, by omega, by go_num, HQX.out, by rw [HRS.out, if_pos HKI.out, List.append_nil, HMM.out]; exact HOX.out⟩
              case measure => simp [intOf] <;> omega
        · have HKI := hide hki
          have t1 : ((k : Int) != (i : Int)) = true := by simp; omega
          go_loopw [3, 42] (fun v3 vj wx => ∃ j : Nat, j ≤ r2 ∧ vj = .int .i64 j ∧ Q w1 wx ∧ wx.ownsRow w1.heap.size 74 2 v3 (R0 ++ strW f0 ofk (wq.take j)).length ((R0 ++ strW f0 ofk (wq.take j)).flatMap encP)) (fun _ vj _ => r2 - (intOf vj).toNat)
          case atStart => exact ⟨0, by omega, by go_num, HQA.out, by simpa [strW, HMM.out] using HOA.out⟩
          case round =>
            obtain ⟨j, hj, rfl, hqx, hownx⟩ := hrel
            obtain ⟨wx, rfl⟩ : ∃ wx : World, wx = wr := ⟨_, rfl⟩
            obtain ⟨V4, cv4, e4, -⟩ := own_form hownx
            subst e4
            have HQX := hide hqx
            have HOX := hide hownx
            clear hqx hownx
            by_cases hjn : j < r2
            · have hd1 : decide ((j : Int) < (r2 : Int)) = true := by simp; omega
              have hd0 : decide (j < r2) = true := by simp; omega
              have hlti : (j : Int) < (r2 : Int) := by omega
              have hwant := (show Sl 3 encWnt wx C2 r2 f2c wq from HTQ.out wx HQX.out).wnt j hjn
              obtain ⟨b4, o4, at_, kd, nm, e4, hb4, g4, y1w, y2w, y3w⟩ := hwant
              try dsimp only at e4 y1w y2w y3w g4
              subst e4
              have hat := wnt_at HVK.out (List.mem_of_getElem? g4)
              dsimp only at hat
              obtain ⟨an, rfl⟩ : ∃ an : Nat, at_ = (an : Int) := ⟨at_.toNat, by omega⟩
              have han : an + 4 ≤ 512 := by omega
              have G4 := hide g4
              obtain ⟨wb, hwb⟩ : ∃ wb, wx.alloc (.cells #[.int .i64 (an : Nat), .int .i64 kd, .string nm] 97) = wb := ⟨_, rfl⟩
              have hqb : Q wx wb := by rw [← hwb]; exact (Q.refl wx).alloc _
              have hbb : wb.heap[wx.heap.size]? = some (.cells #[.int .i64 (an : Nat), .int .i64 kd, .string nm] 97 (0, 0)) := by rw [← hwb]; exact heap_alloc_new wx _
              have u0 : wb.cell? ⟨wx.heap.size, 0, none⟩ = some (.int .i64 (an : Nat)) := cell_blkJ (j := 0) hbb rfl
              have u2 : wb.cell? ⟨wx.heap.size, 2, none⟩ = some (.string nm) := cell_blkJ (j := 2) hbb rfl
              have hxb : wx.heap.size < wb.heap.size := by rw [← hwb]; simp
              have HWB := hide hwb
              have HQXB := hide hqb
              have HQB := hide (HQX.out.trans hqb)
              have hsb : w.heap.size < wb.heap.size := by have := HQB.out.size; omega
              have hba : ba < wb.heap.size := by have := HQB.out.size; omega
              have y0 := (HQB.out.facts.1 _ 0 hs1).trans K0.out
              have y3 := (HQB.out.facts.1 _ 3 hs1).trans K3.out
              have y4 := (HQB.out.facts.1 _ 4 hs1).trans K4.out
              have y5 := (HQB.out.facts.1 _ 5 hs1).trans K5.out
              have y6 := (HQB.out.facts.1 _ 6 hs1).trans K6.out
              have p1 := ((HQ1.out.trans HQB.out).facts.1 _ _ hba0).trans O1.out
              have p2 := ((HQ1.out.trans HQB.out).facts.1 _ _ hba0).trans O2.out
              have p3 := ((HQ1.out.trans HQB.out).facts.1 _ _ hba0).trans O3.out
              clear hwb hqb hbb g4
              have HLB := hide (show (R0 ++ strW f0 ofk (wq.take j)).length ≤ 200 by rw [List.length_append]; have := strW_len f0 ofk (wq.take j); rw [List.length_take] at this; have := HLR.out; omega)
              have hft := HF0.out ((an : Int), kd, nm)
              dsimp only at hft
              obtain ⟨v1, hv1⟩ : ∃ v1, h1f nm = v1 := ⟨_, rfl⟩
              obtain ⟨v2, hv2⟩ : ∃ v2, h2f nm = v2 := ⟨_, rfl⟩
              have HH1 := hide (fun W (h : Q w1 W) => HH1.out W nm (HQ1.out.trans h))
              have HH2 := hide (fun W (h : Q w1 W) => HH2.out W nm (HQ1.out.trans h))
              rw [hv1] at HH1 hft
              rw [hv2] at HH2 hft
              have HFT0 := hide hft
              clear hft hv1 hv2
              cases v1 with
              | true =>
                have HFT : Hid (f0 ((an : Int), kd, nm) = true) := hide HFT0.out
                go_upto_region 8 with fail
                rw [HWB.out]
                refine Ri.madeZ (C := fun W => Q wb W) [] [0, 1, 2, 3, 4, 5, 6, 7, 8, 9, 10, 11, 12, 13, 14, 15, 16, 17, 18, 19, 20, 21, 22] (fun w1 w3 X hq => X.trans hq) (Ri.phi [Ri.isV (.int .i64 (k : Int)), Ri.isV (.pointer (some ⟨w.heap.size, 3, none⟩)), Ri.isV (.int .i64 (i : Int)), Ri.isV (.bool true), Ri.isV (.bool true), Ri.isV (.pointer (some ⟨w.heap.size, 4, none⟩)), Ri.isV (.agg #[.slice A0 n0 c0, .slice A1 n1 c1, .slice A2 n2 c2]), Ri.isV (.pointer (some ⟨wx.heap.size, 2, none⟩)), Ri.isV (.string nm), Ri.isV (.bool true), Ri.isV (.bool true), Ri.isV (undef), Ri.isV (undef), Ri.isV (undef), Ri.isV (undef), Ri.isV (undef), Ri.isV (undef), Ri.isV (undef), Ri.isV (undef), Ri.isV (undef), Ri.isV (undef), Ri.isV (.bool true), Ri.isV (.bool true)]) (by kernel_rfl) (by kernel_rfl) (by kernel_rfl) ((Q.refl _).drew) (Ri.phi_mono ?_) (Ri.phi_fix ?_) ?_ ?_
                · exact ⟨Ri.mono_isV _, Ri.mono_isV _, Ri.mono_isV _, Ri.mono_isV _, Ri.mono_isV _, Ri.mono_isV _, Ri.mono_isV _, Ri.mono_isV _, Ri.mono_isV _, Ri.mono_isV _, Ri.mono_isV _, Ri.mono_isV _, Ri.mono_isV _, Ri.mono_isV _, Ri.mono_isV _, Ri.mono_isV _, Ri.mono_isV _, Ri.mono_isV _, Ri.mono_isV _, Ri.mono_isV _, Ri.mono_isV _, Ri.mono_isV _, Ri.mono_isV _, trivial⟩
                · exact ⟨fun _ => Ri.fix_isV _, fun _ => Ri.fix_isV _, fun _ => Ri.fix_isV _, fun _ => Ri.fix_isV _, fun _ => Ri.fix_isV _, fun _ => Ri.fix_isV _, fun _ => Ri.fix_isV _, fun _ => Ri.fix_isV _, fun _ => Ri.fix_isV _, fun _ => Ri.fix_isV _, fun _ => Ri.fix_isV _, fun _ => Ri.fix_isV _, fun _ => Ri.fix_isV _, fun _ => Ri.fix_isV _, fun _ => Ri.fix_isV _, fun _ => Ri.fix_isV _, fun _ => Ri.fix_isV _, fun _ => Ri.fix_isV _, fun _ => Ri.fix_isV _, fun _ => Ri.fix_isV _, fun _ => Ri.fix_isV _, fun _ => Ri.fix_isV _, fun _ => Ri.fix_isV _, trivial⟩
                · refine Ri.All.cons ?_ (Ri.All.cons ?_ (Ri.All.cons ?_ (Ri.All.cons ?_ (Ri.All.cons ?_ (Ri.All.cons ?_ (Ri.All.cons ?_ (Ri.All.cons ?_ (Ri.All.cons ?_ (Ri.All.cons ?_ (Ri.All.cons ?_ (Ri.All.cons ?_ (Ri.All.cons ?_ (Ri.All.cons ?_ (Ri.All.cons ?_ (Ri.All.cons ?_ (Ri.All.cons ?_ (Ri.All.cons ?_ (Ri.All.cons ?_ (Ri.All.cons ?_ (Ri.All.cons ?_ (Ri.All.cons ?_ (Ri.All.cons ?_ (Ri.All.nil)))))))))))))))))))))))
                  · refine Ri.StepZ.q (by kernel_rfl) rfl fun f W hq hf A hA hB hO => ?_
                    have e1 := (hB 4 (by kernel_rfl)).trans (show _ = .int .i64 (k : Int) by simp [Act.eval])
                    exact Ri.wp_value _ (Ri.run_mv rfl e1) rfl
                  · refine Ri.StepZ.q (by kernel_rfl) rfl fun f W hq hf A hA hB hO => ?_
                    have e1 := (hB 1 (by kernel_rfl)).trans (show _ = .pointer (some ⟨w.heap.size, 0, none⟩) by simp [Act.eval])
                    exact Ri.wp_value _ (Ri.run_fld (f := _) rfl e1 Try.underlying83 rfl (sz := 0) (by kernel_rfl)) rfl
                  · refine Ri.StepZ.q (by kernel_rfl) rfl fun f W hq hf A hA hB hO => ?_
                    have e1 := (hA 47 1 (by kernel_rfl) (by simp)).trans (show f 1 = _ from hf 1 (by kernel_rfl))
                    exact Ri.wp_value _ (Ri.run_ld1 rfl e1 Try.underlying3 rfl ((hq.facts.1 _ 3 hsb).trans y3)) rfl
                  · refine Ri.StepZ.q (by kernel_rfl) rfl fun f W hq hf A hA hB hO => ?_
                    have e1 := (hA 46 0 (by kernel_rfl) (by simp)).trans (show f 0 = _ from hf 0 (by kernel_rfl))
                    have e2 := (hA 48 2 (by kernel_rfl) (by simp)).trans (show f 2 = _ from hf 2 (by kernel_rfl))
                    exact Ri.wp_value _ (t1 ▸ Ri.run_neq rfl e1 e2 Try.underlying3) rfl
                  · refine Ri.StepZ.q (by kernel_rfl) rfl fun f W hq hf A hA hB hO => ?_
                    have e1 := (hA 49 3 (by kernel_rfl) (by simp)).trans (show f 3 = _ from hf 3 (by kernel_rfl))
                    exact Ri.wp_value _ (Ri.run_mv rfl e1) rfl
                  · refine Ri.StepZ.gq (by kernel_rfl) rfl rfl (by simp) fun f W hq hf A hA hB hO => ⟨hf 4 (by kernel_rfl), ?_⟩
                    have e1 := (hB 1 (by kernel_rfl)).trans (show _ = .pointer (some ⟨w.heap.size, 0, none⟩) by simp [Act.eval])
                    exact Ri.wp_value _ (Ri.run_fld (f := _) rfl e1 Try.underlying83 rfl (sz := 2) (by kernel_rfl)) rfl
                  · refine Ri.StepZ.gq (by kernel_rfl) rfl rfl (by simp) fun f W hq hf A hA hB hO => ⟨hf 4 (by kernel_rfl), ?_⟩
                    have e1 := (hA 51 5 (by kernel_rfl) (by simp)).trans (show f 5 = _ from hf 5 (by kernel_rfl))
                    have h0 := (hq.facts.1 _ 4 hsb).trans y4
                    have h1 := (hq.facts.1 _ 5 hsb).trans y5
                    have h2 := (hq.facts.1 _ 6 hsb).trans y6
                    exact Ri.wp_value _ (Ri.run_ldagg (cs := [.slice A0 n0 c0, .slice A1 n1 c1, .slice A2 n2 c2]) rfl e1 (c3 h0 h1 h2) Try.underlying34 rfl (by kernel_rfl)) rfl
                  · refine Ri.StepZ.gq (by kernel_rfl) rfl rfl (by simp) fun f W hq hf A hA hB hO => ⟨hf 4 (by kernel_rfl), ?_⟩
                    have e1 := (hB 7 (by kernel_rfl)).trans (show _ = .pointer (some ⟨wx.heap.size, 0, none⟩) by simp [Act.eval])
                    exact Ri.wp_value _ (Ri.run_fld (f := _) rfl e1 Try.underlying97 rfl (sz := 0) (by kernel_rfl)) rfl
                  · refine Ri.StepZ.gq (by kernel_rfl) rfl rfl (by simp) fun f W hq hf A hA hB hO => ⟨hf 4 (by kernel_rfl), ?_⟩
                    have e1 := (hA 53 7 (by kernel_rfl) (by simp)).trans (show f 7 = _ from hf 7 (by kernel_rfl))
                    exact Ri.wp_value _ (Ri.run_ld1 rfl e1 Try.underlying9 rfl ((hq.facts.1 _ 2 hxb).trans u2)) rfl
                  · refine Ri.StepZ.gq (by kernel_rfl) rfl rfl (by simp) fun f W hq hf A hA hB hO => ⟨hf 4 (by kernel_rfl), ?_⟩
                    have e1 := (hA 52 6 (by kernel_rfl) (by simp)).trans (show f 6 = _ from hf 6 (by kernel_rfl))
                    have e2 := (hA 54 8 (by kernel_rfl) (by simp)).trans (show f 8 = _ from hf 8 (by kernel_rfl))
                    refine Ri.wp_call #[.agg #[.slice A0 n0 c0, .slice A1 n1 c1, .slice A2 n2 c2], .string nm] rfl (by simp [e1, e2]) Try.func86 (by kernel_rfl) (by kernel_rfl) ((HH1.out W (HQB.out.trans hq)).mono ?_)
                    rintro e w9 ⟨rfl, h1⟩
                    exact ⟨_, rfl, h1, rfl⟩
                  · refine Ri.StepZ.gq (by kernel_rfl) rfl rfl (by simp) fun f W hq hf A hA hB hO => ⟨hf 4 (by kernel_rfl), ?_⟩
                    have e1 := (hA 55 9 (by kernel_rfl) (by simp)).trans (show f 9 = _ from hf 9 (by kernel_rfl))
                    exact Ri.wp_value _ (Ri.run_mv rfl e1) rfl
                  · refine Ri.StepZ.off rfl rfl (by simp) fun f W hq hf => ⟨hf 10 (by kernel_rfl), rfl⟩
                  · refine Ri.StepZ.off rfl rfl (by simp) fun f W hq hf => ⟨hf 10 (by kernel_rfl), rfl⟩
                  · refine Ri.StepZ.off rfl rfl (by simp) fun f W hq hf => ⟨hf 10 (by kernel_rfl), rfl⟩
                  · refine Ri.StepZ.off rfl rfl (by simp) fun f W hq hf => ⟨hf 10 (by kernel_rfl), rfl⟩
                  · refine Ri.StepZ.off rfl rfl (by simp) fun f W hq hf => ⟨hf 10 (by kernel_rfl), rfl⟩
                  · refine Ri.StepZ.off rfl rfl (by simp) fun f W hq hf => ⟨hf 10 (by kernel_rfl), rfl⟩
                  · refine Ri.StepZ.off rfl rfl (by simp) fun f W hq hf => ⟨hf 10 (by kernel_rfl), rfl⟩
                  · refine Ri.StepZ.off rfl rfl (by simp) fun f W hq hf => ⟨hf 10 (by kernel_rfl), rfl⟩
                  · refine Ri.StepZ.off rfl rfl (by simp) fun f W hq hf => ⟨hf 10 (by kernel_rfl), rfl⟩
                  · refine Ri.StepZ.off rfl rfl (by simp) fun f W hq hf => ⟨hf 10 (by kernel_rfl), rfl⟩
                  · refine Ri.StepZ.gq (by kernel_rfl) rfl rfl (by simp) fun f W hq hf A hA hB hO => ⟨hf 4 (by kernel_rfl), ?_⟩
                    have e1 := (hA 56 10 (by kernel_rfl) (by simp)).trans (show f 10 = _ from hf 10 (by kernel_rfl))
                    exact Ri.wp_value _ (Ri.run_pick rfl e1 (by simp [Act.eval])) rfl
                  · refine Ri.StepZ.q (by kernel_rfl) rfl fun f W hq hf A hA hB hO => ?_
                    have e1 := (hA 50 4 (by kernel_rfl) (by simp)).trans (show f 4 = _ from hf 4 (by kernel_rfl))
                    have e2 := (hA 67 21 (by kernel_rfl) (by simp)).trans (show f 21 = _ from hf 21 (by kernel_rfl))
                    exact Ri.wp_value _ (Ri.run_pick rfl e1 (by simpa using e2)) rfl
                · intro f W hq hf
                  have e22 : f 22 = .bool true := hf 22 (by decide) (by kernel_rfl)
                  simp only [Ri.acts, Act.put, List.setIfInBounds_toArray, List.set_cons_zero, List.set_cons_succ, Nat.zero_add, Nat.reduceAdd]
                  rw [e22]
                  have HXW := hide hq
                  clear hf hq e22
                  obtain ⟨wc, rfl⟩ : ∃ wc : World, wc = W := ⟨_, rfl⟩
                  have HQC := hide (HQB.out.trans HXW.out)
                  have hsc : w.heap.size < wc.heap.size := by have := HQC.out.size; omega
                  have hsbc : sb < wc.heap.size := by have := HQC.out.size; omega
                  have hxc : wx.heap.size < wc.heap.size := by have := HXW.out.size; omega
                  have z1 := (HQC.out.facts.1 _ 1 hs1).trans K1.out
                  have z3 : wc.cell? ⟨sb, so + k * 1, none⟩ = some (.int .i64 (ofk : Nat)) := (HQC.out.facts.1 _ _ hsb1).trans (by rw [Nat.mul_one]; exact SC3.out)
                  have z2 := (HXW.out.facts.1 _ 0 hxb).trans u0
                  go_upto_region 9 with fail
                  refine Ri.madeZ (C := fun W => Q wc W) [] [0, 1, 2, 3, 4, 5, 6, 7, 8, 9] (fun w1 w3 X hq => X.trans hq) (Ri.phi [Ri.isV (.pointer (some ⟨w.heap.size, 0, none⟩)), Ri.isV (.pointer (some ⟨w.heap.size, 1, none⟩)), Ri.isV (.slice (some ⟨sb, so, none⟩) (n + 1) cs), Ri.isV (.int .i64 (k : Int)), Ri.isV (.pointer (some ⟨sb, so + k * 1, none⟩)), Ri.isV (.int .i64 (ofk : Int)), Ri.isV (.pointer (some ⟨wx.heap.size, 0, none⟩)), Ri.isV (.int .i64 (an : Int)), Ri.isV (.int .i64 ((ofk + an : Nat) : Int)), Ri.isV (.int .i64 ((ofk + an : Nat) : Int))]) (by kernel_rfl) (by kernel_rfl) (by kernel_rfl) ((Q.refl _).drew) (Ri.phi_mono ?_) (Ri.phi_fix ?_) ?_ ?_
                  · exact ⟨Ri.mono_isV _, Ri.mono_isV _, Ri.mono_isV _, Ri.mono_isV _, Ri.mono_isV _, Ri.mono_isV _, Ri.mono_isV _, Ri.mono_isV _, Ri.mono_isV _, Ri.mono_isV _, trivial⟩
                  · exact ⟨fun _ => Ri.fix_isV _, fun _ => Ri.fix_isV _, fun _ => Ri.fix_isV _, fun _ => Ri.fix_isV _, fun _ => Ri.fix_isV _, fun _ => Ri.fix_isV _, fun _ => Ri.fix_isV _, fun _ => Ri.fix_isV _, fun _ => Ri.fix_isV _, fun _ => Ri.fix_isV _, trivial⟩
                  · refine Ri.All.cons ?_ (Ri.All.cons ?_ (Ri.All.cons ?_ (Ri.All.cons ?_ (Ri.All.cons ?_ (Ri.All.cons ?_ (Ri.All.cons ?_ (Ri.All.cons ?_ (Ri.All.cons ?_ (Ri.All.cons ?_ (Ri.All.nil))))))))))
                    · refine Ri.StepZ.q (by kernel_rfl) rfl fun f W hq hf A hA hB hO => ?_
                      have e1 := (hB 1 (by kernel_rfl)).trans (show _ = .pointer (some ⟨w.heap.size, 0, none⟩) by simp [Act.eval])
                      exact Ri.wp_value _ (Ri.run_fld (f := _) rfl e1 Try.underlying83 rfl (sz := 2) (by kernel_rfl)) rfl
                    · refine Ri.StepZ.q (by kernel_rfl) rfl fun f W hq hf A hA hB hO => ?_
                      have e1 := (hA 69 0 (by kernel_rfl) (by simp)).trans (show f 0 = _ from hf 0 (by kernel_rfl))
                      exact Ri.wp_value _ (Ri.run_fld (f := _) rfl e1 Try.underlying78 rfl (sz := 0) (by kernel_rfl)) rfl
                    · refine Ri.StepZ.q (by kernel_rfl) rfl fun f W hq hf A hA hB hO => ?_
                      have e1 := (hA 70 1 (by kernel_rfl) (by simp)).trans (show f 1 = _ from hf 1 (by kernel_rfl))
                      exact Ri.wp_value _ (Ri.run_ld1 rfl e1 Try.underlying26 rfl ((hq.facts.1 _ 1 hsc).trans z1)) rfl
                    · refine Ri.StepZ.q (by kernel_rfl) rfl fun f W hq hf A hA hB hO => ?_
                      have e1 := (hB 4 (by kernel_rfl)).trans (show _ = .int .i64 (k : Int) by simp [Act.eval])
                      exact Ri.wp_value _ (Ri.run_mv rfl e1) rfl
                    · refine Ri.StepZ.q (by kernel_rfl) rfl fun f W hq hf A hA hB hO => ?_
                      have e1 := (hA 71 2 (by kernel_rfl) (by simp)).trans (show f 2 = _ from hf 2 (by kernel_rfl))
                      have e2 := (hA 72 3 (by kernel_rfl) (by simp)).trans (show f 3 = _ from hf 3 (by kernel_rfl))
                      exact Ri.wp_value _ (Ri.run_idx rfl e1 e2 Try.underlying26 (sz := 1) (by kernel_rfl) (Nat.lt_succ_of_lt HKN.out)) rfl
                    · refine Ri.StepZ.q (by kernel_rfl) rfl fun f W hq hf A hA hB hO => ?_
                      have e1 := (hA 73 4 (by kernel_rfl) (by simp)).trans (show f 4 = _ from hf 4 (by kernel_rfl))
                      exact Ri.wp_value _ (Ri.run_ld1 rfl e1 Try.underlying3 rfl ((hq.facts.1 _ _ hsbc).trans z3)) rfl
                    · refine Ri.StepZ.q (by kernel_rfl) rfl fun f W hq hf A hA hB hO => ?_
                      have e1 := (hB 7 (by kernel_rfl)).trans (show _ = .pointer (some ⟨wx.heap.size, 0, none⟩) by simp [Act.eval])
                      exact Ri.wp_value _ (Ri.run_fld (f := _) rfl e1 Try.underlying97 rfl (sz := 0) (by kernel_rfl)) rfl
                    · refine Ri.StepZ.q (by kernel_rfl) rfl fun f W hq hf A hA hB hO => ?_
                      have e1 := (hA 75 6 (by kernel_rfl) (by simp)).trans (show f 6 = _ from hf 6 (by kernel_rfl))
                      exact Ri.wp_value _ (Ri.run_ld1 rfl e1 Try.underlying3 rfl ((hq.facts.1 _ 0 hxc).trans z2)) rfl
                    · refine Ri.StepZ.q (by kernel_rfl) rfl fun f W hq hf A hA hB hO => ?_
                      have e1 := (hA 74 5 (by kernel_rfl) (by simp)).trans (show f 5 = _ from hf 5 (by kernel_rfl))
                      have e2 := (hA 76 7 (by kernel_rfl) (by simp)).trans (show f 7 = _ from hf 7 (by kernel_rfl))
                      exact Ri.wp_value _ ((Ri.run_addJ rfl e1 e2 Try.underlying3 (by omega) (by omega)).trans (by simp)) rfl
                    · refine Ri.StepZ.q (by kernel_rfl) rfl fun f W hq hf A hA hB hO => ?_
                      have e1 := (hA 77 8 (by kernel_rfl) (by simp)).trans (show f 8 = _ from hf 8 (by kernel_rfl))
                      exact Ri.wp_value _ (Ri.run_asg rfl e1) rfl
                  · intro f W hq hf
                    have e9 : f 9 = .int .i64 ((ofk + an : Nat) : Int) := hf 9 (by decide) (by kernel_rfl)
                    simp only [Ri.acts, Act.put, List.setIfInBounds_toArray, List.set_cons_zero, List.set_cons_succ, Nat.zero_add, Nat.reduceAdd]
                    rw [e9]
                    have HXV := hide hq
                    clear hf hq e9
                    have HOV := hide (own_q (own_q HOX.out (HQXB.out.trans HXW.out)) HXV.out)
                    have HQV := hide (HQC.out.trans HXV.out)
                    have hwr : IntKind.i64.wrap (((ofk + an : Nat) : Int) + 4) = ((ofk + an + 4 : Nat) : Int) := by rw [IntKind.wrap_i64]; omega
                    have hsum : (ofk : Int) + (an : Int) ≤ 5000 := by omega
                    clear z1 z2 z3 y0 y3 y4 y5 y6 u0 u2 p1 p2 p3 t1
                    go_wp2_with (at_builtin; go_loud (refine wpList_app1g rfl El_st _ _ rfl rfl HOV.out rfl rfl rfl ?_ ?_ ?_ ?_; (focus (intro u hu; simp at hu; rcases hu with rfl | rfl <;> rfl)); (focus (have := HLB.out; omega)); (focus (have := HQV.out.size; simp; omega)); intro v9 w9 hown9 hg9; have HQ9 := hide (q_grown HQV.out hg9 (fun k' e => (HOV.out.lt k' e).1)); have HO9 := hide hown9; clear hown9 hg9))
                    go_roundw
                    case rel => exact ⟨j + 1, by omega, by go_num, HQ9.out, by
                      have e := strW_step (f := f0) (st := ofk) G4.out
                      rw [if_pos HFT.out] at e
                      rw [e, ← List.append_assoc, List.length_append, List.flatMap_append]
                      have e2 : (mkSt (ofk + ((an : Int), kd, nm).1.toNat) (ofk + ((an : Int), kd, nm).1.toNat + 4) :: []).flatMap encP = [.int .i64 ((ofk + an : Nat) : Int), .int .i64 ((ofk + an + 4 : Nat) : Int)] := by
                        simp only [List.flatMap_cons, List.flatMap_nil, List.append_nil]
                        exact enc_mk (by simp; omega) (by simp; omega)
                      rw [e2]
                      have h9 := HO9.out
                      simp at h9 ⊢
                      exact h9⟩
                    case measure => simp [intOf] <;> omega
              | false =>
                have HFT : Hid (f0 ((an : Int), kd, nm) = v2) := hide HFT0.out
                cases v2 with
                | true =>
                  go_upto_region 8 with fail
                  rw [HWB.out]
                  refine Ri.madeZ (C := fun W => Q wb W) [] [0, 1, 2, 3, 4, 5, 6, 7, 8, 9, 10, 11, 12, 13, 14, 15, 16, 17, 18, 19, 20, 21, 22] (fun w1 w3 X hq => X.trans hq) (Ri.phi [Ri.isV (.int .i64 (k : Int)), Ri.isV (.pointer (some ⟨w.heap.size, 3, none⟩)), Ri.isV (.int .i64 (i : Int)), Ri.isV (.bool true), Ri.isV (.bool true), Ri.isV (.pointer (some ⟨w.heap.size, 4, none⟩)), Ri.isV (.agg #[.slice A0 n0 c0, .slice A1 n1 c1, .slice A2 n2 c2]), Ri.isV (.pointer (some ⟨wx.heap.size, 2, none⟩)), Ri.isV (.string nm), Ri.isV (.bool false), Ri.isV (.bool false), Ri.isV (.pointer (some ⟨w.heap.size, 0, none⟩)), Ri.isV (.pointer (some ⟨w.heap.size, 0, none⟩)), Ri.isV (.slice (some ⟨ba, oa, none⟩) n c), Ri.isV (.pointer (some ⟨w.heap.size, 3, none⟩)), Ri.isV (.int .i64 (i : Int)), Ri.isV (.pointer (some ⟨ba, oa + i * 3, none⟩)), Ri.isV (.agg #[.slice B0 m0 d0, .slice B1 m1 d1, .slice B2 m2 d2]), Ri.isV (.pointer (some ⟨wx.heap.size, 2, none⟩)), Ri.isV (.string nm), Ri.isV (.bool true), Ri.isV (.bool true), Ri.isV (.bool true)]) (by kernel_rfl) (by kernel_rfl) (by kernel_rfl) ((Q.refl _).drew) (Ri.phi_mono ?_) (Ri.phi_fix ?_) ?_ ?_
                  · exact ⟨Ri.mono_isV _, Ri.mono_isV _, Ri.mono_isV _, Ri.mono_isV _, Ri.mono_isV _, Ri.mono_isV _, Ri.mono_isV _, Ri.mono_isV _, Ri.mono_isV _, Ri.mono_isV _, Ri.mono_isV _, Ri.mono_isV _, Ri.mono_isV _, Ri.mono_isV _, Ri.mono_isV _, Ri.mono_isV _, Ri.mono_isV _, Ri.mono_isV _, Ri.mono_isV _, Ri.mono_isV _, Ri.mono_isV _, Ri.mono_isV _, Ri.mono_isV _, trivial⟩
                  · exact ⟨fun _ => Ri.fix_isV _, fun _ => Ri.fix_isV _, fun _ => Ri.fix_isV _, fun _ => Ri.fix_isV _, fun _ => Ri.fix_isV _, fun _ => Ri.fix_isV _, fun _ => Ri.fix_isV _, fun _ => Ri.fix_isV _, fun _ => Ri.fix_isV _, fun _ => Ri.fix_isV _, fun _ => Ri.fix_isV _, fun _ => Ri.fix_isV _, fun _ => Ri.fix_isV _, fun _ => Ri.fix_isV _, fun _ => Ri.fix_isV _, fun _ => Ri.fix_isV _, fun _ => Ri.fix_isV _, fun _ => Ri.fix_isV _, fun _ => Ri.fix_isV _, fun _ => Ri.fix_isV _, fun _ => Ri.fix_isV _, fun _ => Ri.fix_isV _, fun _ => Ri.fix_isV _, trivial⟩
                  · refine Ri.All.cons ?_ (Ri.All.cons ?_ (Ri.All.cons ?_ (Ri.All.cons ?_ (Ri.All.cons ?_ (Ri.All.cons ?_ (Ri.All.cons ?_ (Ri.All.cons ?_ (Ri.All.cons ?_ (Ri.All.cons ?_ (Ri.All.cons ?_ (Ri.All.cons ?_ (Ri.All.cons ?_ (Ri.All.cons ?_ (Ri.All.cons ?_ (Ri.All.cons ?_ (Ri.All.cons ?_ (Ri.All.cons ?_ (Ri.All.cons ?_ (Ri.All.cons ?_ (Ri.All.cons ?_ (Ri.All.cons ?_ (Ri.All.cons ?_ (Ri.All.nil)))))))))))))))))))))))
                    · refine Ri.StepZ.q (by kernel_rfl) rfl fun f W hq hf A hA hB hO => ?_
                      have e1 := (hB 4 (by kernel_rfl)).trans (show _ = .int .i64 (k : Int) by simp [Act.eval])
                      exact Ri.wp_value _ (Ri.run_mv rfl e1) rfl
                    · refine Ri.StepZ.q (by kernel_rfl) rfl fun f W hq hf A hA hB hO => ?_
                      have e1 := (hB 1 (by kernel_rfl)).trans (show _ = .pointer (some ⟨w.heap.size, 0, none⟩) by simp [Act.eval])
                      exact Ri.wp_value _ (Ri.run_fld (f := _) rfl e1 Try.underlying83 rfl (sz := 0) (by kernel_rfl)) rfl
                    · refine Ri.StepZ.q (by kernel_rfl) rfl fun f W hq hf A hA hB hO => ?_
                      have e1 := (hA 47 1 (by kernel_rfl) (by simp)).trans (show f 1 = _ from hf 1 (by kernel_rfl))
                      exact Ri.wp_value _ (Ri.run_ld1 rfl e1 Try.underlying3 rfl ((hq.facts.1 _ 3 hsb).trans y3)) rfl
                    · refine Ri.StepZ.q (by kernel_rfl) rfl fun f W hq hf A hA hB hO => ?_
                      have e1 := (hA 46 0 (by kernel_rfl) (by simp)).trans (show f 0 = _ from hf 0 (by kernel_rfl))
                      have e2 := (hA 48 2 (by kernel_rfl) (by simp)).trans (show f 2 = _ from hf 2 (by kernel_rfl))
                      exact Ri.wp_value _ (t1 ▸ Ri.run_neq rfl e1 e2 Try.underlying3) rfl
                    · refine Ri.StepZ.q (by kernel_rfl) rfl fun f W hq hf A hA hB hO => ?_
                      have e1 := (hA 49 3 (by kernel_rfl) (by simp)).trans (show f 3 = _ from hf 3 (by kernel_rfl))
                      exact Ri.wp_value _ (Ri.run_mv rfl e1) rfl
                    · refine Ri.StepZ.gq (by kernel_rfl) rfl rfl (by simp) fun f W hq hf A hA hB hO => ⟨hf 4 (by kernel_rfl), ?_⟩
                      have e1 := (hB 1 (by kernel_rfl)).trans (show _ = .pointer (some ⟨w.heap.size, 0, none⟩) by simp [Act.eval])
                      exact Ri.wp_value _ (Ri.run_fld (f := _) rfl e1 Try.underlying83 rfl (sz := 2) (by kernel_rfl)) rfl
                    · refine Ri.StepZ.gq (by kernel_rfl) rfl rfl (by simp) fun f W hq hf A hA hB hO => ⟨hf 4 (by kernel_rfl), ?_⟩
                      have e1 := (hA 51 5 (by kernel_rfl) (by simp)).trans (show f 5 = _ from hf 5 (by kernel_rfl))
                      have h0 := (hq.facts.1 _ 4 hsb).trans y4
                      have h1 := (hq.facts.1 _ 5 hsb).trans y5
                      have h2 := (hq.facts.1 _ 6 hsb).trans y6
                      exact Ri.wp_value _ (Ri.run_ldagg (cs := [.slice A0 n0 c0, .slice A1 n1 c1, .slice A2 n2 c2]) rfl e1 (c3 h0 h1 h2) Try.underlying34 rfl (by kernel_rfl)) rfl
                    · refine Ri.StepZ.gq (by kernel_rfl) rfl rfl (by simp) fun f W hq hf A hA hB hO => ⟨hf 4 (by kernel_rfl), ?_⟩
                      have e1 := (hB 7 (by kernel_rfl)).trans (show _ = .pointer (some ⟨wx.heap.size, 0, none⟩) by simp [Act.eval])
                      exact Ri.wp_value _ (Ri.run_fld (f := _) rfl e1 Try.underlying97 rfl (sz := 0) (by kernel_rfl)) rfl
                    · refine Ri.StepZ.gq (by kernel_rfl) rfl rfl (by simp) fun f W hq hf A hA hB hO => ⟨hf 4 (by kernel_rfl), ?_⟩
                      have e1 := (hA 53 7 (by kernel_rfl) (by simp)).trans (show f 7 = _ from hf 7 (by kernel_rfl))
                      exact Ri.wp_value _ (Ri.run_ld1 rfl e1 Try.underlying9 rfl ((hq.facts.1 _ 2 hxb).trans u2)) rfl
                    · refine Ri.StepZ.gq (by kernel_rfl) rfl rfl (by simp) fun f W hq hf A hA hB hO => ⟨hf 4 (by kernel_rfl), ?_⟩
                      have e1 := (hA 52 6 (by kernel_rfl) (by simp)).trans (show f 6 = _ from hf 6 (by kernel_rfl))
                      have e2 := (hA 54 8 (by kernel_rfl) (by simp)).trans (show f 8 = _ from hf 8 (by kernel_rfl))
                      refine Ri.wp_call #[.agg #[.slice A0 n0 c0, .slice A1 n1 c1, .slice A2 n2 c2], .string nm] rfl (by simp [e1, e2]) Try.func86 (by kernel_rfl) (by kernel_rfl) ((HH1.out W (HQB.out.trans hq)).mono ?_)
                      rintro e w9 ⟨rfl, h1⟩
                      exact ⟨_, rfl, h1, rfl⟩
                    · refine Ri.StepZ.gq (by kernel_rfl) rfl rfl (by simp) fun f W hq hf A hA hB hO => ⟨hf 4 (by kernel_rfl), ?_⟩
                      have e1 := (hA 55 9 (by kernel_rfl) (by simp)).trans (show f 9 = _ from hf 9 (by kernel_rfl))
                      exact Ri.wp_value _ (Ri.run_mv rfl e1) rfl
                    · refine Ri.StepZ.gq (by kernel_rfl) rfl rfl (by simp) fun f W hq hf A hA hB hO => ⟨hf 10 (by kernel_rfl), ?_⟩
                      have e1 := (hB 1 (by kernel_rfl)).trans (show _ = .pointer (some ⟨w.heap.size, 0, none⟩) by simp [Act.eval])
                      exact Ri.wp_value _ (Ri.run_fld (f := _) rfl e1 Try.underlying83 rfl (sz := 2) (by kernel_rfl)) rfl
                    · refine Ri.StepZ.gq (by kernel_rfl) rfl rfl (by simp) fun f W hq hf A hA hB hO => ⟨hf 10 (by kernel_rfl), ?_⟩
                      have e1 := (hA 57 11 (by kernel_rfl) (by simp)).trans (show f 11 = _ from hf 11 (by kernel_rfl))
                      exact Ri.wp_value _ (Ri.run_fld (f := _) rfl e1 Try.underlying78 rfl (sz := 0) (by kernel_rfl)) rfl
                    · refine Ri.StepZ.gq (by kernel_rfl) rfl rfl (by simp) fun f W hq hf A hA hB hO => ⟨hf 10 (by kernel_rfl), ?_⟩
                      have e1 := (hA 58 12 (by kernel_rfl) (by simp)).trans (show f 12 = _ from hf 12 (by kernel_rfl))
                      exact Ri.wp_value _ (Ri.run_ld1 rfl e1 Try.underlying22 rfl ((hq.facts.1 _ 0 hsb).trans y0)) rfl
                    · refine Ri.StepZ.gq (by kernel_rfl) rfl rfl (by simp) fun f W hq hf A hA hB hO => ⟨hf 10 (by kernel_rfl), ?_⟩
                      have e1 := (hB 1 (by kernel_rfl)).trans (show _ = .pointer (some ⟨w.heap.size, 0, none⟩) by simp [Act.eval])
                      exact Ri.wp_value _ (Ri.run_fld (f := _) rfl e1 Try.underlying83 rfl (sz := 0) (by kernel_rfl)) rfl
                    · refine Ri.StepZ.gq (by kernel_rfl) rfl rfl (by simp) fun f W hq hf A hA hB hO => ⟨hf 10 (by kernel_rfl), ?_⟩
                      have e1 := (hA 60 14 (by kernel_rfl) (by simp)).trans (show f 14 = _ from hf 14 (by kernel_rfl))
                      exact Ri.wp_value _ (Ri.run_ld1 rfl e1 Try.underlying3 rfl ((hq.facts.1 _ 3 hsb).trans y3)) rfl
                    · refine Ri.StepZ.gq (by kernel_rfl) rfl rfl (by simp) fun f W hq hf A hA hB hO => ⟨hf 10 (by kernel_rfl), ?_⟩
                      have e1 := (hA 59 13 (by kernel_rfl) (by simp)).trans (show f 13 = _ from hf 13 (by kernel_rfl))
                      have e2 := (hA 61 15 (by kernel_rfl) (by simp)).trans (show f 15 = _ from hf 15 (by kernel_rfl))
                      exact Ri.wp_value _ (Ri.run_idx rfl e1 e2 Try.underlying22 (sz := 3) (by kernel_rfl) HII.out) rfl
                    · refine Ri.StepZ.gq (by kernel_rfl) rfl rfl (by simp) fun f W hq hf A hA hB hO => ⟨hf 10 (by kernel_rfl), ?_⟩
                      have e1 := (hA 62 16 (by kernel_rfl) (by simp)).trans (show f 16 = _ from hf 16 (by kernel_rfl))
                      have h0 := (hq.facts.1 _ _ hba).trans p1
                      have h1 := (hq.facts.1 _ _ hba).trans p2
                      have h2 := (hq.facts.1 _ _ hba).trans p3
                      exact Ri.wp_value _ (Ri.run_ldagg (cs := [.slice B0 m0 d0, .slice B1 m1 d1, .slice B2 m2 d2]) rfl e1 (c3 h0 h1 h2) Try.underlying34 rfl (by kernel_rfl)) rfl
                    · refine Ri.StepZ.gq (by kernel_rfl) rfl rfl (by simp) fun f W hq hf A hA hB hO => ⟨hf 10 (by kernel_rfl), ?_⟩
                      have e1 := (hB 7 (by kernel_rfl)).trans (show _ = .pointer (some ⟨wx.heap.size, 0, none⟩) by simp [Act.eval])
                      exact Ri.wp_value _ (Ri.run_fld (f := _) rfl e1 Try.underlying97 rfl (sz := 0) (by kernel_rfl)) rfl
                    · refine Ri.StepZ.gq (by kernel_rfl) rfl rfl (by simp) fun f W hq hf A hA hB hO => ⟨hf 10 (by kernel_rfl), ?_⟩
                      have e1 := (hA 64 18 (by kernel_rfl) (by simp)).trans (show f 18 = _ from hf 18 (by kernel_rfl))
                      exact Ri.wp_value _ (Ri.run_ld1 rfl e1 Try.underlying9 rfl ((hq.facts.1 _ 2 hxb).trans u2)) rfl
                    · refine Ri.StepZ.gq (by kernel_rfl) rfl rfl (by simp) fun f W hq hf A hA hB hO => ⟨hf 10 (by kernel_rfl), ?_⟩
                      have e1 := (hA 63 17 (by kernel_rfl) (by simp)).trans (show f 17 = _ from hf 17 (by kernel_rfl))
                      have e2 := (hA 65 19 (by kernel_rfl) (by simp)).trans (show f 19 = _ from hf 19 (by kernel_rfl))
                      refine Ri.wp_call #[.agg #[.slice B0 m0 d0, .slice B1 m1 d1, .slice B2 m2 d2], .string nm] rfl (by simp [e1, e2]) Try.func86 (by kernel_rfl) (by kernel_rfl) ((HH2.out W (HQB.out.trans hq)).mono ?_)
                      rintro e w9 ⟨rfl, h1⟩
                      exact ⟨_, rfl, h1, rfl⟩
                    · refine Ri.StepZ.gq (by kernel_rfl) rfl rfl (by simp) fun f W hq hf A hA hB hO => ⟨hf 4 (by kernel_rfl), ?_⟩
                      have e1 := (hA 56 10 (by kernel_rfl) (by simp)).trans (show f 10 = _ from hf 10 (by kernel_rfl))
                      have e2 := (hA 66 20 (by kernel_rfl) (by simp)).trans (show f 20 = _ from hf 20 (by kernel_rfl))
                      exact Ri.wp_value _ (Ri.run_pick rfl e1 (by simpa using e2)) rfl
                    · refine Ri.StepZ.q (by kernel_rfl) rfl fun f W hq hf A hA hB hO => ?_
                      have e1 := (hA 50 4 (by kernel_rfl) (by simp)).trans (show f 4 = _ from hf 4 (by kernel_rfl))
                      have e2 := (hA 67 21 (by kernel_rfl) (by simp)).trans (show f 21 = _ from hf 21 (by kernel_rfl))
                      exact Ri.wp_value _ (Ri.run_pick rfl e1 (by simpa using e2)) rfl
                  · intro f W hq hf
                    have e22 : f 22 = .bool true := hf 22 (by decide) (by kernel_rfl)
                    simp only [Ri.acts, Act.put, List.setIfInBounds_toArray, List.set_cons_zero, List.set_cons_succ, Nat.zero_add, Nat.reduceAdd]
                    rw [e22]
                    have HXW := hide hq
                    clear hf hq e22
                    obtain ⟨wc, rfl⟩ : ∃ wc : World, wc = W := ⟨_, rfl⟩
                    have HQC := hide (HQB.out.trans HXW.out)
                    have hsc : w.heap.size < wc.heap.size := by have := HQC.out.size; omega
                    have hsbc : sb < wc.heap.size := by have := HQC.out.size; omega
                    have hxc : wx.heap.size < wc.heap.size := by have := HXW.out.size; omega
                    have z1 := (HQC.out.facts.1 _ 1 hs1).trans K1.out
                    have z3 : wc.cell? ⟨sb, so + k * 1, none⟩ = some (.int .i64 (ofk : Nat)) := (HQC.out.facts.1 _ _ hsb1).trans (by rw [Nat.mul_one]; exact SC3.out)
                    have z2 := (HXW.out.facts.1 _ 0 hxb).trans u0
                    go_upto_region 9 with fail
                    refine Ri.madeZ (C := fun W => Q wc W) [] [0, 1, 2, 3, 4, 5, 6, 7, 8, 9] (fun w1 w3 X hq => X.trans hq) (Ri.phi [Ri.isV (.pointer (some ⟨w.heap.size, 0, none⟩)), Ri.isV (.pointer (some ⟨w.heap.size, 1, none⟩)), Ri.isV (.slice (some ⟨sb, so, none⟩) (n + 1) cs), Ri.isV (.int .i64 (k : Int)), Ri.isV (.pointer (some ⟨sb, so + k * 1, none⟩)), Ri.isV (.int .i64 (ofk : Int)), Ri.isV (.pointer (some ⟨wx.heap.size, 0, none⟩)), Ri.isV (.int .i64 (an : Int)), Ri.isV (.int .i64 ((ofk + an : Nat) : Int)), Ri.isV (.int .i64 ((ofk + an : Nat) : Int))]) (by kernel_rfl) (by kernel_rfl) (by kernel_rfl) ((Q.refl _).drew) (Ri.phi_mono ?_) (Ri.phi_fix ?_) ?_ ?_
                    · exact ⟨Ri.mono_isV _, Ri.mono_isV _, Ri.mono_isV _, Ri.mono_isV _, Ri.mono_isV _, Ri.mono_isV _, Ri.mono_isV _, Ri.mono_isV _, Ri.mono_isV _, Ri.mono_isV _, trivial⟩
                    · exact ⟨fun _ => Ri.fix_isV _, fun _ => Ri.fix_isV _, fun _ => Ri.fix_isV _, fun _ => Ri.fix_isV _, fun _ => Ri.fix_isV _, fun _ => Ri.fix_isV _, fun _ => Ri.fix_isV _, fun _ => Ri.fix_isV _, fun _ => Ri.fix_isV _, fun _ => Ri.fix_isV _, trivial⟩
                    · refine Ri.All.cons ?_ (Ri.All.cons ?_ (Ri.All.cons ?_ (Ri.All.cons ?_ (Ri.All.cons ?_ (Ri.All.cons ?_ (Ri.All.cons ?_ (Ri.All.cons ?_ (Ri.All.cons ?_ (Ri.All.cons ?_ (Ri.All.nil))))))))))
                      · refine Ri.StepZ.q (by kernel_rfl) rfl fun f W hq hf A hA hB hO => ?_
                        have e1 := (hB 1 (by kernel_rfl)).trans (show _ = .pointer (some ⟨w.heap.size, 0, none⟩) by simp [Act.eval])
                        exact Ri.wp_value _ (Ri.run_fld (f := _) rfl e1 Try.underlying83 rfl (sz := 2) (by kernel_rfl)) rfl
                      · refine Ri.StepZ.q (by kernel_rfl) rfl fun f W hq hf A hA hB hO => ?_
                        have e1 := (hA 69 0 (by kernel_rfl) (by simp)).trans (show f 0 = _ from hf 0 (by kernel_rfl))
                        exact Ri.wp_value _ (Ri.run_fld (f := _) rfl e1 Try.underlying78 rfl (sz := 0) (by kernel_rfl)) rfl
                      · refine Ri.StepZ.q (by kernel_rfl) rfl fun f W hq hf A hA hB hO => ?_
                        have e1 := (hA 70 1 (by kernel_rfl) (by simp)).trans (show f 1 = _ from hf 1 (by kernel_rfl))
                        exact Ri.wp_value _ (Ri.run_ld1 rfl e1 Try.underlying26 rfl ((hq.facts.1 _ 1 hsc).trans z1)) rfl
                      · refine Ri.StepZ.q (by kernel_rfl) rfl fun f W hq hf A hA hB hO => ?_
                        have e1 := (hB 4 (by kernel_rfl)).trans (show _ = .int .i64 (k : Int) by simp [Act.eval])
                        exact Ri.wp_value _ (Ri.run_mv rfl e1) rfl
                      · refine Ri.StepZ.q (by kernel_rfl) rfl fun f W hq hf A hA hB hO => ?_
                        have e1 := (hA 71 2 (by kernel_rfl) (by simp)).trans (show f 2 = _ from hf 2 (by kernel_rfl))
                        have e2 := (hA 72 3 (by kernel_rfl) (by simp)).trans (show f 3 = _ from hf 3 (by kernel_rfl))
                        exact Ri.wp_value _ (Ri.run_idx rfl e1 e2 Try.underlying26 (sz := 1) (by kernel_rfl) (Nat.lt_succ_of_lt HKN.out)) rfl
                      · refine Ri.StepZ.q (by kernel_rfl) rfl fun f W hq hf A hA hB hO => ?_
                        have e1 := (hA 73 4 (by kernel_rfl) (by simp)).trans (show f 4 = _ from hf 4 (by kernel_rfl))
                        exact Ri.wp_value _ (Ri.run_ld1 rfl e1 Try.underlying3 rfl ((hq.facts.1 _ _ hsbc).trans z3)) rfl
                      · refine Ri.StepZ.q (by kernel_rfl) rfl fun f W hq hf A hA hB hO => ?_
                        have e1 := (hB 7 (by kernel_rfl)).trans (show _ = .pointer (some ⟨wx.heap.size, 0, none⟩) by simp [Act.eval])
                        exact Ri.wp_value _ (Ri.run_fld (f := _) rfl e1 Try.underlying97 rfl (sz := 0) (by kernel_rfl)) rfl
                      · refine Ri.StepZ.q (by kernel_rfl) rfl fun f W hq hf A hA hB hO => ?_
                        have e1 := (hA 75 6 (by kernel_rfl) (by simp)).trans (show f 6 = _ from hf 6 (by kernel_rfl))
                        exact Ri.wp_value _ (Ri.run_ld1 rfl e1 Try.underlying3 rfl ((hq.facts.1 _ 0 hxc).trans z2)) rfl
                      · refine Ri.StepZ.q (by kernel_rfl) rfl fun f W hq hf A hA hB hO => ?_
                        have e1 := (hA 74 5 (by kernel_rfl) (by simp)).trans (show f 5 = _ from hf 5 (by kernel_rfl))
                        have e2 := (hA 76 7 (by kernel_rfl) (by simp)).trans (show f 7 = _ from hf 7 (by kernel_rfl))
                        exact Ri.wp_value _ ((Ri.run_addJ rfl e1 e2 Try.underlying3 (by omega) (by omega)).trans (by simp)) rfl
                      · refine Ri.StepZ.q (by kernel_rfl) rfl fun f W hq hf A hA hB hO => ?_
                        have e1 := (hA 77 8 (by kernel_rfl) (by simp)).trans (show f 8 = _ from hf 8 (by kernel_rfl))
                        exact Ri.wp_value _ (Ri.run_asg rfl e1) rfl
                    · intro f W hq hf
                      have e9 : f 9 = .int .i64 ((ofk + an : Nat) : Int) := hf 9 (by decide) (by kernel_rfl)
                      simp only [Ri.acts, Act.put, List.setIfInBounds_toArray, List.set_cons_zero, List.set_cons_succ, Nat.zero_add, Nat.reduceAdd]
                      rw [e9]
                      have HXV := hide hq
                      clear hf hq e9
                      have HOV := hide (own_q (own_q HOX.out (HQXB.out.trans HXW.out)) HXV.out)
                      have HQV := hide (HQC.out.trans HXV.out)
                      have hwr : IntKind.i64.wrap (((ofk + an : Nat) : Int) + 4) = ((ofk + an + 4 : Nat) : Int) := by rw [IntKind.wrap_i64]; omega
                      have hsum : (ofk : Int) + (an : Int) ≤ 5000 := by omega
                      clear z1 z2 z3 y0 y3 y4 y5 y6 u0 u2 p1 p2 p3 t1
                      go_wp2_with (at_builtin; go_loud (refine wpList_app1g rfl El_st _ _ rfl rfl HOV.out rfl rfl rfl ?_ ?_ ?_ ?_; (focus (intro u hu; simp at hu; rcases hu with rfl | rfl <;> rfl)); (focus (have := HLB.out; omega)); (focus (have := HQV.out.size; simp; omega)); intro v9 w9 hown9 hg9; have HQ9 := hide (q_grown HQV.out hg9 (fun k' e => (HOV.out.lt k' e).1)); have HO9 := hide hown9; clear hown9 hg9))
                      go_roundw
                      case rel => exact ⟨j + 1, by omega, by go_num, HQ9.out, by
                        have e := strW_step (f := f0) (st := ofk) G4.out
                        rw [if_pos HFT.out] at e
                        rw [e, ← List.append_assoc, List.length_append, List.flatMap_append]
                        have e2 : (mkSt (ofk + ((an : Int), kd, nm).1.toNat) (ofk + ((an : Int), kd, nm).1.toNat + 4) :: []).flatMap encP = [.int .i64 ((ofk + an : Nat) : Int), .int .i64 ((ofk + an + 4 : Nat) : Int)] := by
                          simp only [List.flatMap_cons, List.flatMap_nil, List.append_nil]
                          exact enc_mk (by simp; omega) (by simp; omega)
                        rw [e2]
                        have h9 := HO9.out
                        simp at h9 ⊢
                        exact h9⟩
                      case measure => simp [intOf] <;> omega
                | false =>
                  go_upto_region 8 with fail
                  rw [HWB.out]
                  refine Ri.madeZ (C := fun W => Q wb W) [] [0, 1, 2, 3, 4, 5, 6, 7, 8, 9, 10, 11, 12, 13, 14, 15, 16, 17, 18, 19, 20, 21, 22] (fun w1 w3 X hq => X.trans hq) (Ri.phi [Ri.isV (.int .i64 (k : Int)), Ri.isV (.pointer (some ⟨w.heap.size, 3, none⟩)), Ri.isV (.int .i64 (i : Int)), Ri.isV (.bool true), Ri.isV (.bool true), Ri.isV (.pointer (some ⟨w.heap.size, 4, none⟩)), Ri.isV (.agg #[.slice A0 n0 c0, .slice A1 n1 c1, .slice A2 n2 c2]), Ri.isV (.pointer (some ⟨wx.heap.size, 2, none⟩)), Ri.isV (.string nm), Ri.isV (.bool false), Ri.isV (.bool false), Ri.isV (.pointer (some ⟨w.heap.size, 0, none⟩)), Ri.isV (.pointer (some ⟨w.heap.size, 0, none⟩)), Ri.isV (.slice (some ⟨ba, oa, none⟩) n c), Ri.isV (.pointer (some ⟨w.heap.size, 3, none⟩)), Ri.isV (.int .i64 (i : Int)), Ri.isV (.pointer (some ⟨ba, oa + i * 3, none⟩)), Ri.isV (.agg #[.slice B0 m0 d0, .slice B1 m1 d1, .slice B2 m2 d2]), Ri.isV (.pointer (some ⟨wx.heap.size, 2, none⟩)), Ri.isV (.string nm), Ri.isV (.bool false), Ri.isV (.bool false), Ri.isV (.bool false)]) (by kernel_rfl) (by kernel_rfl) (by kernel_rfl) ((Q.refl _).drew) (Ri.phi_mono ?_) (Ri.phi_fix ?_) ?_ ?_
                  · exact ⟨Ri.mono_isV _, Ri.mono_isV _, Ri.mono_isV _, Ri.mono_isV _, Ri.mono_isV _, Ri.mono_isV _, Ri.mono_isV _, Ri.mono_isV _, Ri.mono_isV _, Ri.mono_isV _, Ri.mono_isV _, Ri.mono_isV _, Ri.mono_isV _, Ri.mono_isV _, Ri.mono_isV _, Ri.mono_isV _, Ri.mono_isV _, Ri.mono_isV _, Ri.mono_isV _, Ri.mono_isV _, Ri.mono_isV _, Ri.mono_isV _, Ri.mono_isV _, trivial⟩
                  · exact ⟨fun _ => Ri.fix_isV _, fun _ => Ri.fix_isV _, fun _ => Ri.fix_isV _, fun _ => Ri.fix_isV _, fun _ => Ri.fix_isV _, fun _ => Ri.fix_isV _, fun _ => Ri.fix_isV _, fun _ => Ri.fix_isV _, fun _ => Ri.fix_isV _, fun _ => Ri.fix_isV _, fun _ => Ri.fix_isV _, fun _ => Ri.fix_isV _, fun _ => Ri.fix_isV _, fun _ => Ri.fix_isV _, fun _ => Ri.fix_isV _, fun _ => Ri.fix_isV _, fun _ => Ri.fix_isV _, fun _ => Ri.fix_isV _, fun _ => Ri.fix_isV _, fun _ => Ri.fix_isV _, fun _ => Ri.fix_isV _, fun _ => Ri.fix_isV _, fun _ => Ri.fix_isV _, trivial⟩
                  · refine Ri.All.cons ?_ (Ri.All.cons ?_ (Ri.All.cons ?_ (Ri.All.cons ?_ (Ri.All.cons ?_ (Ri.All.cons ?_ (Ri.All.cons ?_ (Ri.All.cons ?_ (Ri.All.cons ?_ (Ri.All.cons ?_ (Ri.All.cons ?_ (Ri.All.cons ?_ (Ri.All.cons ?_ (Ri.All.cons ?_ (Ri.All.cons ?_ (Ri.All.cons ?_ (Ri.All.cons ?_ (Ri.All.cons ?_ (Ri.All.cons ?_ (Ri.All.cons ?_ (Ri.All.cons ?_ (Ri.All.cons ?_ (Ri.All.cons ?_ (Ri.All.nil)))))))))))))))))))))))
                    · refine Ri.StepZ.q (by kernel_rfl) rfl fun f W hq hf A hA hB hO => ?_
                      have e1 := (hB 4 (by kernel_rfl)).trans (show _ = .int .i64 (k : Int) by simp [Act.eval])
                      exact Ri.wp_value _ (Ri.run_mv rfl e1) rfl
                    · refine Ri.StepZ.q (by kernel_rfl) rfl fun f W hq hf A hA hB hO => ?_
                      have e1 := (hB 1 (by kernel_rfl)).trans (show _ = .pointer (some ⟨w.heap.size, 0, none⟩) by simp [Act.eval])
                      exact Ri.wp_value _ (Ri.run_fld (f := _) rfl e1 Try.underlying83 rfl (sz := 0) (by kernel_rfl)) rfl
                    · refine Ri.StepZ.q (by kernel_rfl) rfl fun f W hq hf A hA hB hO => ?_
                      have e1 := (hA 47 1 (by kernel_rfl) (by simp)).trans (show f 1 = _ from hf 1 (by kernel_rfl))
                      exact Ri.wp_value _ (Ri.run_ld1 rfl e1 Try.underlying3 rfl ((hq.facts.1 _ 3 hsb).trans y3)) rfl
                    · refine Ri.StepZ.q (by kernel_rfl) rfl fun f W hq hf A hA hB hO => ?_
                      have e1 := (hA 46 0 (by kernel_rfl) (by simp)).trans (show f 0 = _ from hf 0 (by kernel_rfl))
                      have e2 := (hA 48 2 (by kernel_rfl) (by simp)).trans (show f 2 = _ from hf 2 (by kernel_rfl))
                      exact Ri.wp_value _ (t1 ▸ Ri.run_neq rfl e1 e2 Try.underlying3) rfl
                    · refine Ri.StepZ.q (by kernel_rfl) rfl fun f W hq hf A hA hB hO => ?_
                      have e1 := (hA 49 3 (by kernel_rfl) (by simp)).trans (show f 3 = _ from hf 3 (by kernel_rfl))
                      exact Ri.wp_value _ (Ri.run_mv rfl e1) rfl
                    · refine Ri.StepZ.gq (by kernel_rfl) rfl rfl (by simp) fun f W hq hf A hA hB hO => ⟨hf 4 (by kernel_rfl), ?_⟩
                      have e1 := (hB 1 (by kernel_rfl)).trans (show _ = .pointer (some ⟨w.heap.size, 0, none⟩) by simp [Act.eval])
                      exact Ri.wp_value _ (Ri.run_fld (f := _) rfl e1 Try.underlying83 rfl (sz := 2) (by kernel_rfl)) rfl
                    · refine Ri.StepZ.gq (by kernel_rfl) rfl rfl (by simp) fun f W hq hf A hA hB hO => ⟨hf 4 (by kernel_rfl), ?_⟩
                      have e1 := (hA 51 5 (by kernel_rfl) (by simp)).trans (show f 5 = _ from hf 5 (by kernel_rfl))
                      have h0 := (hq.facts.1 _ 4 hsb).trans y4
                      have h1 := (hq.facts.1 _ 5 hsb).trans y5
                      have h2 := (hq.facts.1 _ 6 hsb).trans y6
                      exact Ri.wp_value _ (Ri.run_ldagg (cs := [.slice A0 n0 c0, .slice A1 n1 c1, .slice A2 n2 c2]) rfl e1 (c3 h0 h1 h2) Try.underlying34 rfl (by kernel_rfl)) rfl
                    · refine Ri.StepZ.gq (by kernel_rfl) rfl rfl (by simp) fun f W hq hf A hA hB hO => ⟨hf 4 (by kernel_rfl), ?_⟩
                      have e1 := (hB 7 (by kernel_rfl)).trans (show _ = .pointer (some ⟨wx.heap.size, 0, none⟩) by simp [Act.eval])
                      exact Ri.wp_value _ (Ri.run_fld (f := _) rfl e1 Try.underlying97 rfl (sz := 0) (by kernel_rfl)) rfl
                    · refine Ri.StepZ.gq (by kernel_rfl) rfl rfl (by simp) fun f W hq hf A hA hB hO => ⟨hf 4 (by kernel_rfl), ?_⟩
                      have e1 := (hA 53 7 (by kernel_rfl) (by simp)).trans (show f 7 = _ from hf 7 (by kernel_rfl))
                      exact Ri.wp_value _ (Ri.run_ld1 rfl e1 Try.underlying9 rfl ((hq.facts.1 _ 2 hxb).trans u2)) rfl
                    · refine Ri.StepZ.gq (by kernel_rfl) rfl rfl (by simp) fun f W hq hf A hA hB hO => ⟨hf 4 (by kernel_rfl), ?_⟩
                      have e1 := (hA 52 6 (by kernel_rfl) (by simp)).trans (show f 6 = _ from hf 6 (by kernel_rfl))
                      have e2 := (hA 54 8 (by kernel_rfl) (by simp)).trans (show f 8 = _ from hf 8 (by kernel_rfl))
                      refine Ri.wp_call #[.agg #[.slice A0 n0 c0, .slice A1 n1 c1, .slice A2 n2 c2], .string nm] rfl (by simp [e1, e2]) Try.func86 (by kernel_rfl) (by kernel_rfl) ((HH1.out W (HQB.out.trans hq)).mono ?_)
                      rintro e w9 ⟨rfl, h1⟩
                      exact ⟨_, rfl, h1, rfl⟩
                    · refine Ri.StepZ.gq (by kernel_rfl) rfl rfl (by simp) fun f W hq hf A hA hB hO => ⟨hf 4 (by kernel_rfl), ?_⟩
                      have e1 := (hA 55 9 (by kernel_rfl) (by simp)).trans (show f 9 = _ from hf 9 (by kernel_rfl))
                      exact Ri.wp_value _ (Ri.run_mv rfl e1) rfl
                    · refine Ri.StepZ.gq (by kernel_rfl) rfl rfl (by simp) fun f W hq hf A hA hB hO => ⟨hf 10 (by kernel_rfl), ?_⟩
                      have e1 := (hB 1 (by kernel_rfl)).trans (show _ = .pointer (some ⟨w.heap.size, 0, none⟩) by simp [Act.eval])
                      exact Ri.wp_value _ (Ri.run_fld (f := _) rfl e1 Try.underlying83 rfl (sz := 2) (by kernel_rfl)) rfl
                    · refine Ri.StepZ.gq (by kernel_rfl) rfl rfl (by simp) fun f W hq hf A hA hB hO => ⟨hf 10 (by kernel_rfl), ?_⟩
                      have e1 := (hA 57 11 (by kernel_rfl) (by simp)).trans (show f 11 = _ from hf 11 (by kernel_rfl))
                      exact Ri.wp_value _ (Ri.run_fld (f := _) rfl e1 Try.underlying78 rfl (sz := 0) (by kernel_rfl)) rfl
                    · refine Ri.StepZ.gq (by kernel_rfl) rfl rfl (by simp) fun f W hq hf A hA hB hO => ⟨hf 10 (by kernel_rfl), ?_⟩
                      have e1 := (hA 58 12 (by kernel_rfl) (by simp)).trans (show f 12 = _ from hf 12 (by kernel_rfl))
                      exact Ri.wp_value _ (Ri.run_ld1 rfl e1 Try.underlying22 rfl ((hq.facts.1 _ 0 hsb).trans y0)) rfl
                    · refine Ri.StepZ.gq (by kernel_rfl) rfl rfl (by simp) fun f W hq hf A hA hB hO => ⟨hf 10 (by kernel_rfl), ?_⟩
                      have e1 := (hB 1 (by kernel_rfl)).trans (show _ = .pointer (some ⟨w.heap.size, 0, none⟩) by simp [Act.eval])
                      exact Ri.wp_value _ (Ri.run_fld (f := _) rfl e1 Try.underlying83 rfl (sz := 0) (by kernel_rfl)) rfl
                    · refine Ri.StepZ.gq (by kernel_rfl) rfl rfl (by simp) fun f W hq hf A hA hB hO => ⟨hf 10 (by kernel_rfl), ?_⟩
                      have e1 := (hA 60 14 (by kernel_rfl) (by simp)).trans (show f 14 = _ from hf 14 (by kernel_rfl))
                      exact Ri.wp_value _ (Ri.run_ld1 rfl e1 Try.underlying3 rfl ((hq.facts.1 _ 3 hsb).trans y3)) rfl
                    · refine Ri.StepZ.gq (by kernel_rfl) rfl rfl (by simp) fun f W hq hf A hA hB hO => ⟨hf 10 (by kernel_rfl), ?_⟩
                      have e1 := (hA 59 13 (by kernel_rfl) (by simp)).trans (show f 13 = _ from hf 13 (by kernel_rfl))
                      have e2 := (hA 61 15 (by kernel_rfl) (by simp)).trans (show f 15 = _ from hf 15 (by kernel_rfl))
                      exact Ri.wp_value _ (Ri.run_idx rfl e1 e2 Try.underlying22 (sz := 3) (by kernel_rfl) HII.out) rfl
                    · refine Ri.StepZ.gq (by kernel_rfl) rfl rfl (by simp) fun f W hq hf A hA hB hO => ⟨hf 10 (by kernel_rfl), ?_⟩
                      have e1 := (hA 62 16 (by kernel_rfl) (by simp)).trans (show f 16 = _ from hf 16 (by kernel_rfl))
                      have h0 := (hq.facts.1 _ _ hba).trans p1
                      have h1 := (hq.facts.1 _ _ hba).trans p2
                      have h2 := (hq.facts.1 _ _ hba).trans p3
                      exact Ri.wp_value _ (Ri.run_ldagg (cs := [.slice B0 m0 d0, .slice B1 m1 d1, .slice B2 m2 d2]) rfl e1 (c3 h0 h1 h2) Try.underlying34 rfl (by kernel_rfl)) rfl
                    · refine Ri.StepZ.gq (by kernel_rfl) rfl rfl (by simp) fun f W hq hf A hA hB hO => ⟨hf 10 (by kernel_rfl), ?_⟩
                      have e1 := (hB 7 (by kernel_rfl)).trans (show _ = .pointer (some ⟨wx.heap.size, 0, none⟩) by simp [Act.eval])
                      exact Ri.wp_value _ (Ri.run_fld (f := _) rfl e1 Try.underlying97 rfl (sz := 0) (by kernel_rfl)) rfl
                    · refine Ri.StepZ.gq (by kernel_rfl) rfl rfl (by simp) fun f W hq hf A hA hB hO => ⟨hf 10 (by kernel_rfl), ?_⟩
                      have e1 := (hA 64 18 (by kernel_rfl) (by simp)).trans (show f 18 = _ from hf 18 (by kernel_rfl))
                      exact Ri.wp_value _ (Ri.run_ld1 rfl e1 Try.underlying9 rfl ((hq.facts.1 _ 2 hxb).trans u2)) rfl
                    · refine Ri.StepZ.gq (by kernel_rfl) rfl rfl (by simp) fun f W hq hf A hA hB hO => ⟨hf 10 (by kernel_rfl), ?_⟩
                      have e1 := (hA 63 17 (by kernel_rfl) (by simp)).trans (show f 17 = _ from hf 17 (by kernel_rfl))
                      have e2 := (hA 65 19 (by kernel_rfl) (by simp)).trans (show f 19 = _ from hf 19 (by kernel_rfl))
                      refine Ri.wp_call #[.agg #[.slice B0 m0 d0, .slice B1 m1 d1, .slice B2 m2 d2], .string nm] rfl (by simp [e1, e2]) Try.func86 (by kernel_rfl) (by kernel_rfl) ((HH2.out W (HQB.out.trans hq)).mono ?_)
                      rintro e w9 ⟨rfl, h1⟩
                      exact ⟨_, rfl, h1, rfl⟩
                    · refine Ri.StepZ.gq (by kernel_rfl) rfl rfl (by simp) fun f W hq hf A hA hB hO => ⟨hf 4 (by kernel_rfl), ?_⟩
                      have e1 := (hA 56 10 (by kernel_rfl) (by simp)).trans (show f 10 = _ from hf 10 (by kernel_rfl))
                      have e2 := (hA 66 20 (by kernel_rfl) (by simp)).trans (show f 20 = _ from hf 20 (by kernel_rfl))
                      exact Ri.wp_value _ (Ri.run_pick rfl e1 (by simpa using e2)) rfl
                    · refine Ri.StepZ.q (by kernel_rfl) rfl fun f W hq hf A hA hB hO => ?_
                      have e1 := (hA 50 4 (by kernel_rfl) (by simp)).trans (show f 4 = _ from hf 4 (by kernel_rfl))
                      have e2 := (hA 67 21 (by kernel_rfl) (by simp)).trans (show f 21 = _ from hf 21 (by kernel_rfl))
                      exact Ri.wp_value _ (Ri.run_pick rfl e1 (by simpa using e2)) rfl
                  · intro f W hq hf
                    have e22 : f 22 = .bool false := hf 22 (by decide) (by kernel_rfl)
                    simp only [Ri.acts, Act.put, List.setIfInBounds_toArray, List.set_cons_zero, List.set_cons_succ, Nat.zero_add, Nat.reduceAdd]
                    rw [e22]
                    have HXW := hide hq
                    clear hf hq e22
                    go_wp2_with fail
                    go_roundw
                    case rel => exact ⟨j + 1, by omega, by go_num, HQB.out.trans HXW.out, by
                      have e := strW_step (f := f0) (st := ofk) G4.out
                      rw [if_neg (by rw [HFT.out]; decide), List.append_nil] at e
                      rw [e]
                      exact own_q HOX.out (HQXB.out.trans HXW.out)⟩
                    case measure => simp [intOf] <;> omega
            · have hd1 : decide ((j : Int) < (r2 : Int)) = false := by simp; omega
              have hd0 : decide (j < r2) = false := by simp; omega
              obtain rfl : j = r2 := by omega
              go_wp2_with fail
              go_roundw
              case rel => exact ⟨k + 1, by omega, by go_num, HQX.out, by
                have hx := HOX.out
                have e0 : wq.take j = wq := List.take_of_length_le (by omega)
                rw [HRS.out, if_neg HKI.out]
                simpa only [e0] using hx⟩
              case measure => simp [intOf] <;> omega
      · have hd1 : decide ((k : Int) < (n : Int)) = false := by simp; omega
        have hd0 : decide (k < n) = false := by simp; omega
        obtain rfl : k = n := by omega
        have hpos : 0 < m := by rw [← HMM.out, ← HR0K.out]; simp [rawTo]
        obtain ⟨tn, rfl⟩ : ∃ tn, m = tn + 1 := ⟨m - 1, by omega⟩
        obtain ⟨g, cg, e3, hgb, hgl, hgn, hgm, -, -⟩ := own_at HOO.out hpos
        have e4 : V3 = some ⟨g, 0, none⟩ ∧ cv3 = cg := by
          injection e3 with e5 e6 e7
          exact ⟨e5, e7⟩
        obtain ⟨rfl, rfl⟩ := e4
        have HSF := hide (SortF_own (ss := R0) (HMM.out ▸ HOO.out) (by have := HLR.out; omega))
        rw [HMM.out] at HSF
        have htn : tn ≤ 128 := by have := HLR.out; have := HMM.out; omega
        have htni : (tn : Int) ≤ 128 := by omega
        unfold maxLen at hgm
        have hcgi : (tn : Int) + 1 ≤ (cv3 : Int) := by omega
        have hcgj : (cv3 : Int) ≤ 9223372036854775807 := by omega
        have HGB := hide hgb
        clear hpos hgb e3
        go_wp2_with fail
        refine HSF.out.mono ?_
        rintro e w4 ⟨rfl, hg4, ts, hperm, hsort, hown4⟩
        have hq4 : Q w1 w4 := q_grown HQO.out hg4 (fun k' e => by cases e; exact HGB.out)
        obtain ⟨z, tl, rfl⟩ : ∃ z tl, ts = z :: tl := by
          cases ts with
          | nil => have := hperm.length_eq; have := HMM.out; simp at *; omega
          | cons z tl => exact ⟨z, tl, rfl⟩
        have htl : tl.length = tn := by have := hperm.length_eq; have := HMM.out; simp at *; omega
        have HTL := hide htl
        have HPM := hide hperm
        have HSO := hide hsort
        have HM4 := hide (Mst.start hq4 hown4 (by rw [htl]))
        clear hg4 hperm hsort hown4 hq4 htl HSF HOO HQO
        go_wp2_with fail
        · go_loopw [9, 94] (fun v9 vi wx => ∃ (k : Nat) (ys : List St), k ≤ tn ∧ vi = .int .i64 k ∧ ys = (tl.take k).foldl stepM [z] ∧ Mst w1 g (tn + 1) cv3 tl v9 ys wx) (fun _ vi _ => tn - (intOf vi).toNat)
          case atStart => exact ⟨0, [z], by omega, by go_num, rfl, HM4.out⟩
          case round =>
            obtain ⟨k, ys, hk, rfl, hys, hM⟩ := hrel
            obtain ⟨wx, rfl⟩ : ∃ wx : World, wx = wr := ⟨_, rfl⟩
            have HYS := hide hys
            have HM := hide hM
            have hyl : ys.length ≤ 200 := by
              have := foldM_len (tl.take k) [z]
              rw [← hys] at this
              rw [List.length_take] at this
              simp at this
              omega
            have ht0 : tn = 0 := by omega
            · have hd1 : decide ((k : Int) < (tn : Int)) = false := by simp; omega
              have hd0 : decide (k < tn) = false := by simp; omega
              obtain rfl : k = tn := by omega
              have HMD := hide hM.done
              have hq := hM.q
              have HYE := hide (show ys = mergeS (z :: tl) by rw [hys, List.take_of_length_le (by have := HTL.out; omega)]; rfl)
              clear hM hys hyl HM
              go_wp2_with fail
              go_ret
              obtain ⟨h, c9, rfl, hb, hs⟩ := HMD.out
              rw [HYE.out] at hs ⊢
              exact ⟨HQ1.out.trans hq, z :: tl, h, c9, by rw [HLL.out, HR0K.out]; exact HPM.out, HSO.out, rfl, Nat.le_trans HQ1.out.size hb, hs⟩
        · go_loopw [9, 94] (fun v9 vi wx => ∃ (k : Nat) (ys : List St), k ≤ tn ∧ vi = .int .i64 k ∧ ys = (tl.take k).foldl stepM [z] ∧ Mst w1 g (tn + 1) cv3 tl v9 ys wx) (fun _ vi _ => tn - (intOf vi).toNat)
          case atStart => exact ⟨0, [z], by omega, by go_num, rfl, HM4.out⟩
          case round =>
            obtain ⟨k, ys, hk, rfl, hys, hM⟩ := hrel
            obtain ⟨wx, rfl⟩ : ∃ wx : World, wx = wr := ⟨_, rfl⟩
            have HYS := hide hys
            have HM := hide hM
            have hyl : ys.length ≤ 200 := by
              have := foldM_len (tl.take k) [z]
              rw [← hys] at this
              rw [List.length_take] at this
              simp at this
              omega
            by_cases hlt : k < tn
            · have hd1 : decide ((k : Int) < (tn : Int)) = true := by simp; omega
              have hd0 : decide (k < tn) = true := by simp; omega
              have hlti : (k : Int) < (tn : Int) := by omega
              obtain ⟨x, hx⟩ : ∃ x, tl[k]? = some x := ⟨_, List.getElem?_eq_getElem (by have := HTL.out; omega)⟩
              obtain ⟨hgx, c0', c1'⟩ := hM.at_ hx
              have hk2 : (k + 1) * 2 = 2 + k * 2 := by omega
              rw [hk2] at c0' c1'
              obtain ⟨pb, pj, pc, l, rfl, hyn, hll, hpb0, hpbx, q0x, q1x, fzx, hst⟩ := hM.last
              obtain ⟨wb, hwb⟩ : ∃ wb, wx.alloc (.cells #[.int .i64 (x.1.val : Nat), .int .i64 (x.2.val : Nat)] 74) = wb := ⟨_, rfl⟩
              have hqb : Q wx wb := by rw [← hwb]; exact (Q.refl wx).alloc _
              have hbb : wb.heap[wx.heap.size]? = some (.cells #[.int .i64 (x.1.val : Nat), .int .i64 (x.2.val : Nat)] 74 (0, 0)) := by rw [← hwb]; exact heap_alloc_new wx _
              have u0 : wb.cell? ⟨wx.heap.size, 0, none⟩ = some (.int .i64 (x.1.val : Nat)) := cell_blkJ (j := 0) hbb rfl
              have u1 : wb.cell? ⟨wx.heap.size, 1, none⟩ = some (.int .i64 (x.2.val : Nat)) := cell_blkJ (j := 1) hbb rfl
              have q1 : wb.cell? ⟨pb, pj * 2 + 1, none⟩ = some (.int .i64 (l.2.val : Nat)) := (hqb.facts.1 _ _ hpbx).trans q1x
              have qf : wb.frozen? ⟨pb, pj * 2 + 1, none⟩ = false := (hqb.facts.2.1 _ _ hpbx).trans fzx
              have hxb : wx.heap.size < wb.heap.size := by rw [← hwb]; simp
              have hpb : pb < wb.heap.size := by omega
              have hpji : (pj : Int) ≤ 200 := by omega
              have HWB := hide hwb
              have HX := hide hx
              have HLL := hide hll
              have HST : Hid (∀ W', Q wb W' → ∀ e : Fin 65536, Mst w1 g (tn + 1) cv3 tl (.slice (some ⟨pb, 0, none⟩) (pj + 1) pc) (ys.dropLast ++ [(l.1, e)]) (W'.setCell ⟨pb, pj * 2 + 1, none⟩ (.int .i64 (e.val : Nat)))) := hide fun W' h => hst W' (hqb.trans h)
              have HMB := hide (hM.up hqb)
              have hgi : g < wx.heap.size := hgx
              have HYN := hide hyn
              have HYL := hide hyl
              clear hwb hqb hbb hM hys hst hx hll q0x q1x fzx hk2 HM hyn hyl
              by_cases hle : (x.1.val : Int) ≤ (l.2.val : Int)
              · have t1 : decide ((x.1.val : Int) ≤ (l.2.val : Int)) = true := by simpa using hle
                have HLE := hide (show x.1.val ≤ l.2.val by omega)
                go_upto_region 19 with fail
                rw [HWB.out]
                refine Ri.made (Ri.phi [Ri.isV (.pointer (some ⟨wx.heap.size, 0 + 0 * 1, none⟩)), Ri.isV (.int .i64 ((x.1.val : Nat) : Int)), Ri.isV (.pointer (some ⟨pb, pj * 2, none⟩)), Ri.isV (.pointer (some ⟨pb, pj * 2, none⟩)), Ri.isV (.pointer (some ⟨pb, pj * 2 + 1 * 1, none⟩)), Ri.isV (.int .i64 ((l.2.val : Nat) : Int)), Ri.isV (.bool true)]) (by kernel_rfl) (by kernel_rfl) (Ri.phi_mono ?_) ?_ ?_
                · exact ⟨Ri.mono_isV _, Ri.mono_isV _, Ri.mono_isV _, Ri.mono_isV _, Ri.mono_isV _, Ri.mono_isV _, Ri.mono_isV _, trivial⟩
                · refine Ri.All.cons ?_ (Ri.All.cons ?_ (Ri.All.cons ?_ (Ri.All.cons ?_ (Ri.All.cons ?_ (Ri.All.cons ?_ (Ri.All.cons ?_ (Ri.All.nil)))))))
                  · refine ⟨rfl, fun f W hq hf A hA hB hO => ?_⟩
                    have e1 := (hB 11 (by kernel_rfl)).trans (show _ = .pointer (some ⟨wx.heap.size, 0, none⟩) by simp [Act.eval])
                    exact Ri.wp_value _ (Ri.run_aidx (k := 0) rfl e1 rfl Try.underlying74 (sz := 1) (by kernel_rfl) (by decide)) rfl
                  · refine ⟨rfl, fun f W hq hf A hA hB hO => ?_⟩
                    have e1 := (hA 103 0 (by kernel_rfl) (by simp)).trans (show f 0 = _ from hf 0 (by kernel_rfl))
                    exact Ri.wp_value _ (Ri.run_ld1 rfl e1 Try.underlying3 rfl ((hq.facts.1 _ 0 hxb).trans u0)) rfl
                  · refine ⟨rfl, fun f W hq hf A hA hB hO => ?_⟩
                    have e1 := (hB 12 (by kernel_rfl)).trans (show _ = .pointer (some ⟨pb, pj * 2, none⟩) by simp [Act.eval])
                    exact Ri.wp_value _ (Ri.run_mv rfl e1) rfl
                  · refine ⟨rfl, fun f W hq hf A hA hB hO => ?_⟩
                    have e1 := (hA 105 2 (by kernel_rfl) (by simp)).trans (show f 2 = _ from hf 2 (by kernel_rfl))
                    exact Ri.wp_value _ (Ri.run_nil rfl e1) rfl
                  · refine ⟨rfl, fun f W hq hf A hA hB hO => ?_⟩
                    have e1 := (hA 106 3 (by kernel_rfl) (by simp)).trans (show f 3 = _ from hf 3 (by kernel_rfl))
                    exact Ri.wp_value _ (Ri.run_aidx (k := 1) rfl e1 rfl Try.underlying74 (sz := 1) (by kernel_rfl) (by decide)) rfl
                  · refine ⟨rfl, fun f W hq hf A hA hB hO => ?_⟩
                    have e1 := (hA 107 4 (by kernel_rfl) (by simp)).trans (show f 4 = _ from hf 4 (by kernel_rfl))
                    exact Ri.wp_value _ (Ri.run_ld1 rfl e1 Try.underlying3 rfl ((hq.facts.1 _ _ hpb).trans q1)) rfl
                  · refine ⟨rfl, fun f W hq hf A hA hB hO => ?_⟩
                    have e1 := (hA 104 1 (by kernel_rfl) (by simp)).trans (show f 1 = _ from hf 1 (by kernel_rfl))
                    have e2 := (hA 108 5 (by kernel_rfl) (by simp)).trans (show f 5 = _ from hf 5 (by kernel_rfl))
                    exact Ri.wp_value _ (t1 ▸ Ri.run_leq rfl e1 e2 Try.underlying3) rfl
                · intro f W hq hf
                  have e6 : f 6 = .bool true := hf 6 (by simp)
                  simp only [Ri.acts, Act.put, List.setIfInBounds_toArray, List.set_cons_zero, List.set_cons_succ, Nat.zero_add, Nat.reduceAdd]
                  rw [e6]
                  have HXW := hide hq
                  clear hf hq e6
                  obtain ⟨ev, hev⟩ : ∃ ev : Fin 65536, ev = if l.2.val < x.2.val then x.2 else l.2 := ⟨_, rfl⟩
                  have hem : max (l.2.val : Int) (x.2.val : Int) = ((ev.val : Nat) : Int) := by
                    rw [hev]
                    by_cases h9 : l.2.val < x.2.val
                    · rw [if_pos h9]; omega
                    · rw [if_neg h9]; omega
                  have HEM := hide hem
                  have HEV := hide hev
                  clear hem hev t1 hle
                  have hpc : pb < W.heap.size := by have := HXW.out.size; omega
                  have hxc : wx.heap.size < W.heap.size := by have := HXW.out.size; omega
                  have r1 := (HXW.out.facts.1 _ _ hpb).trans q1
                  have rf := (HXW.out.facts.2.1 _ _ hpb).trans qf
                  have t2 := (HXW.out.facts.1 _ 1 hxb).trans u1
                  clear u0 u1 q1 qf c0' c1'
                  go_upto_region 20 with fail
                  refine Ri.made_last (Ri.phi [Ri.isV (.pointer (some ⟨pb, pj * 2, none⟩)), Ri.isV (.pointer (some ⟨pb, pj * 2, none⟩)), Ri.isV (.pointer (some ⟨pb, pj * 2, none⟩)), Ri.isV (.pointer (some ⟨pb, pj * 2 + 1 * 1, none⟩)), Ri.isV (.int .i64 ((l.2.val : Nat) : Int)), Ri.isV (.pointer (some ⟨wx.heap.size, 0 + 1 * 1, none⟩)), Ri.isV (.int .i64 ((x.2.val : Nat) : Int)), Ri.isV (.int .i64 (max ((l.2.val : Nat) : Int) ((x.2.val : Nat) : Int))), Ri.isV (.pointer (some ⟨pb, pj * 2, none⟩)), Ri.isV (.pointer (some ⟨pb, pj * 2 + 1 * 1, none⟩))]) (by kernel_rfl) (by kernel_rfl) rfl (by kernel_rfl) rfl (Ri.phi_mono ?_) ?_ ?_
                  · exact ⟨Ri.mono_isV _, Ri.mono_isV _, Ri.mono_isV _, Ri.mono_isV _, Ri.mono_isV _, Ri.mono_isV _, Ri.mono_isV _, Ri.mono_isV _, Ri.mono_isV _, Ri.mono_isV _, trivial⟩
                  · refine Ri.All.cons ?_ (Ri.All.cons ?_ (Ri.All.cons ?_ (Ri.All.cons ?_ (Ri.All.cons ?_ (Ri.All.cons ?_ (Ri.All.cons ?_ (Ri.All.cons ?_ (Ri.All.cons ?_ (Ri.All.cons ?_ (Ri.All.nil))))))))))
                    · refine ⟨rfl, fun f W hq hf A hA hB hO => ?_⟩
                      have e1 := (hB 12 (by kernel_rfl)).trans (show _ = .pointer (some ⟨pb, pj * 2, none⟩) by simp [Act.eval])
                      exact Ri.wp_value _ (Ri.run_mv rfl e1) rfl
                    · refine ⟨rfl, fun f W hq hf A hA hB hO => ?_⟩
                      have e1 := (hB 12 (by kernel_rfl)).trans (show _ = .pointer (some ⟨pb, pj * 2, none⟩) by simp [Act.eval])
                      exact Ri.wp_value _ (Ri.run_mv rfl e1) rfl
                    · refine ⟨rfl, fun f W hq hf A hA hB hO => ?_⟩
                      have e1 := (hA 111 1 (by kernel_rfl) (by simp)).trans (show f 1 = _ from hf 1 (by kernel_rfl))
                      exact Ri.wp_value _ (Ri.run_nil rfl e1) rfl
                    · refine ⟨rfl, fun f W hq hf A hA hB hO => ?_⟩
                      have e1 := (hA 112 2 (by kernel_rfl) (by simp)).trans (show f 2 = _ from hf 2 (by kernel_rfl))
                      exact Ri.wp_value _ (Ri.run_aidx (k := 1) rfl e1 rfl Try.underlying74 (sz := 1) (by kernel_rfl) (by decide)) rfl
                    · refine ⟨rfl, fun f W hq hf A hA hB hO => ?_⟩
                      have e1 := (hA 113 3 (by kernel_rfl) (by simp)).trans (show f 3 = _ from hf 3 (by kernel_rfl))
                      exact Ri.wp_value _ (Ri.run_ld1 rfl e1 Try.underlying3 rfl ((hq.facts.1 _ _ hpc).trans r1)) rfl
                    · refine ⟨rfl, fun f W hq hf A hA hB hO => ?_⟩
                      have e1 := (hB 11 (by kernel_rfl)).trans (show _ = .pointer (some ⟨wx.heap.size, 0, none⟩) by simp [Act.eval])
                      exact Ri.wp_value _ (Ri.run_aidx (k := 1) rfl e1 rfl Try.underlying74 (sz := 1) (by kernel_rfl) (by decide)) rfl
                    · refine ⟨rfl, fun f W hq hf A hA hB hO => ?_⟩
                      have e1 := (hA 115 5 (by kernel_rfl) (by simp)).trans (show f 5 = _ from hf 5 (by kernel_rfl))
                      exact Ri.wp_value _ (Ri.run_ld1 rfl e1 Try.underlying3 rfl ((hq.facts.1 _ 1 hxc).trans t2)) rfl
                    · refine ⟨rfl, fun f W hq hf A hA hB hO => ?_⟩
                      have e1 := (hA 114 4 (by kernel_rfl) (by simp)).trans (show f 4 = _ from hf 4 (by kernel_rfl))
                      have e2 := (hA 116 6 (by kernel_rfl) (by simp)).trans (show f 6 = _ from hf 6 (by kernel_rfl))
                      exact Ri.wp_value _ (Ri.run_maxi rfl e1 e2) rfl
                    · refine ⟨rfl, fun f W hq hf A hA hB hO => ?_⟩
                      have e1 := (hA 110 0 (by kernel_rfl) (by simp)).trans (show f 0 = _ from hf 0 (by kernel_rfl))
                      exact Ri.wp_value _ (Ri.run_nil rfl e1) rfl
                    · refine ⟨rfl, fun f W hq hf A hA hB hO => ?_⟩
                      have e1 := (hA 118 8 (by kernel_rfl) (by simp)).trans (show f 8 = _ from hf 8 (by kernel_rfl))
                      exact Ri.wp_value _ (Ri.run_aidx (k := 1) rfl e1 rfl Try.underlying74 (sz := 1) (by kernel_rfl) (by decide)) rfl
                  · intro f W2 hq hf A hAe hA hB
                    have e1 := (hA 119 9 (by kernel_rfl) (by simp)).trans (show f 9 = _ from hf 9 (by simp))
                    have e2 := (hA 117 7 (by kernel_rfl) (by simp)).trans (show f 7 = _ from hf 7 (by simp))
                    have c9 := (hq.facts.1 _ _ hpc).trans r1
                    have f9 := (hq.facts.2.1 _ _ hpc).trans rf
                    refine Ri.wp_store rfl e1 e2 rfl (by kernel_rfl) rfl rfl c9 f9 ?_
                    rw [hAe]
                    simp only [Ri.acts, Act.put, List.setIfInBounds_toArray, List.set_cons_zero, List.set_cons_succ, Nat.zero_add, Nat.reduceAdd]
                    rw [HEM.out]
                    have HST2 := hide (HST.out W2 (HXW.out.trans hq) ev)
                    clear hA hB hAe e1 e2 hf hq c9 f9
                    clear r1 rf t2
                    go_wp2_with fail
                    go_roundw
                    case rel => exact ⟨k + 1, _, by omega, by go_num, by rw [foldM_step HX.out, ← HYS.out, stepM_some HLL.out, if_pos HLE.out, ← HEV.out], HST2.out⟩
                    case measure => simp [intOf] <;> omega
              · have t1 : decide ((x.1.val : Int) ≤ (l.2.val : Int)) = false := by simpa using hle
                have HLE := hide (show ¬ x.1.val ≤ l.2.val by omega)
                go_upto_region 19 with fail
                rw [HWB.out]
                refine Ri.made (Ri.phi [Ri.isV (.pointer (some ⟨wx.heap.size, 0 + 0 * 1, none⟩)), Ri.isV (.int .i64 ((x.1.val : Nat) : Int)), Ri.isV (.pointer (some ⟨pb, pj * 2, none⟩)), Ri.isV (.pointer (some ⟨pb, pj * 2, none⟩)), Ri.isV (.pointer (some ⟨pb, pj * 2 + 1 * 1, none⟩)), Ri.isV (.int .i64 ((l.2.val : Nat) : Int)), Ri.isV (.bool false)]) (by kernel_rfl) (by kernel_rfl) (Ri.phi_mono ?_) ?_ ?_
                · exact ⟨Ri.mono_isV _, Ri.mono_isV _, Ri.mono_isV _, Ri.mono_isV _, Ri.mono_isV _, Ri.mono_isV _, Ri.mono_isV _, trivial⟩
                · refine Ri.All.cons ?_ (Ri.All.cons ?_ (Ri.All.cons ?_ (Ri.All.cons ?_ (Ri.All.cons ?_ (Ri.All.cons ?_ (Ri.All.cons ?_ (Ri.All.nil)))))))
                  · refine ⟨rfl, fun f W hq hf A hA hB hO => ?_⟩
                    have e1 := (hB 11 (by kernel_rfl)).trans (show _ = .pointer (some ⟨wx.heap.size, 0, none⟩) by simp [Act.eval])
                    exact Ri.wp_value _ (Ri.run_aidx (k := 0) rfl e1 rfl Try.underlying74 (sz := 1) (by kernel_rfl) (by decide)) rfl
                  · refine ⟨rfl, fun f W hq hf A hA hB hO => ?_⟩
                    have e1 := (hA 103 0 (by kernel_rfl) (by simp)).trans (show f 0 = _ from hf 0 (by kernel_rfl))
                    exact Ri.wp_value _ (Ri.run_ld1 rfl e1 Try.underlying3 rfl ((hq.facts.1 _ 0 hxb).trans u0)) rfl
                  · refine ⟨rfl, fun f W hq hf A hA hB hO => ?_⟩
                    have e1 := (hB 12 (by kernel_rfl)).trans (show _ = .pointer (some ⟨pb, pj * 2, none⟩) by simp [Act.eval])
                    exact Ri.wp_value _ (Ri.run_mv rfl e1) rfl
                  · refine ⟨rfl, fun f W hq hf A hA hB hO => ?_⟩
                    have e1 := (hA 105 2 (by kernel_rfl) (by simp)).trans (show f 2 = _ from hf 2 (by kernel_rfl))
                    exact Ri.wp_value _ (Ri.run_nil rfl e1) rfl
                  · refine ⟨rfl, fun f W hq hf A hA hB hO => ?_⟩
                    have e1 := (hA 106 3 (by kernel_rfl) (by simp)).trans (show f 3 = _ from hf 3 (by kernel_rfl))
                    exact Ri.wp_value _ (Ri.run_aidx (k := 1) rfl e1 rfl Try.underlying74 (sz := 1) (by kernel_rfl) (by decide)) rfl
                  · refine ⟨rfl, fun f W hq hf A hA hB hO => ?_⟩
                    have e1 := (hA 107 4 (by kernel_rfl) (by simp)).trans (show f 4 = _ from hf 4 (by kernel_rfl))
                    exact Ri.wp_value _ (Ri.run_ld1 rfl e1 Try.underlying3 rfl ((hq.facts.1 _ _ hpb).trans q1)) rfl
                  · refine ⟨rfl, fun f W hq hf A hA hB hO => ?_⟩
                    have e1 := (hA 104 1 (by kernel_rfl) (by simp)).trans (show f 1 = _ from hf 1 (by kernel_rfl))
                    have e2 := (hA 108 5 (by kernel_rfl) (by simp)).trans (show f 5 = _ from hf 5 (by kernel_rfl))
                    exact Ri.wp_value _ (t1 ▸ Ri.run_leq rfl e1 e2 Try.underlying3) rfl
                · intro f W hq hf
                  have e6 : f 6 = .bool false := hf 6 (by simp)
                  simp only [Ri.acts, Act.put, List.setIfInBounds_toArray, List.set_cons_zero, List.set_cons_succ, Nat.zero_add, Nat.reduceAdd]
                  rw [e6]
                  have HXW := hide hq
                  clear hf hq e6
                  have HMW := hide (HMB.out.up HXW.out)
                  have hxc : wx.heap.size < W.heap.size := by have := HXW.out.size; omega
                  have t0 := (HXW.out.facts.1 _ 0 hxb).trans u0
                  have t2 := (HXW.out.facts.1 _ 1 hxb).trans u1
                  clear u0 u1 q1 qf c0' c1' t1 hle
                  go_wp2_with (at_builtin; go_loud (refine wpList_appM rfl _ _ rfl HMW.out rfl (y := x) rfl rfl ?_ ?_; (focus (have := HYL.out; omega)); intro v9 w9 hM9; have HM9 := hide hM9; clear hM9))
                  go_roundw
                  case rel => exact ⟨k + 1, _, by omega, by go_num, by rw [foldM_step HX.out, ← HYS.out, stepM_some HLL.out, if_neg HLE.out], HM9.out⟩
                  case measure => simp [intOf] <;> omega
            · have hd1 : decide ((k : Int) < (tn : Int)) = false := by simp; omega
              have hd0 : decide (k < tn) = false := by simp; omega
              obtain rfl : k = tn := by omega
              have HMD := hide hM.done
              have hq := hM.q
              have HYE := hide (show ys = mergeS (z :: tl) by rw [hys, List.take_of_length_le (by have := HTL.out; omega)]; rfl)
              clear hM hys hyl HM
              go_wp2_with fail
              go_ret
              obtain ⟨h, c9, rfl, hb, hs⟩ := HMD.out
              rw [HYE.out] at hs ⊢
              exact ⟨HQ1.out.trans hq, z :: tl, h, c9, by rw [HLL.out, HR0K.out]; exact HPM.out, HSO.out, rfl, Nat.le_trans HQ1.out.size hb, hs⟩
end Go.Proofs.Ytiilkiggfjpibaa
