/- The walk of the reference's can. Conditions: the objects read as such and are valid. -/
import Derived.Test.YtiilkiggfjpibaaLinkVh
import Derived.Test.YtiilkiggfjpibaaRp
namespace Go.Proofs.Ytiilkiggfjpibaa
open Go.RowKit LK
set_option linter.unusedVariables false
set_option linter.unusedSimpArgs false
theorem c3 {w : World} {g off : Nat} {a b c : Value} (h0 : w.cell? ⟨g, off, none⟩ = some a) (h1 : w.cell? ⟨g, off + 1, none⟩ = some b) (h2 : w.cell? ⟨g, off + 2, none⟩ = some c) : ∀ (j : Nat) (v : Value), [a, b, c][j]? = some v → w.cell? ⟨g, off + j, none⟩ = some v
  | 0, _, h => by injection h with h; rw [← h]; exact h0
  | 1, _, h => by injection h with h; rw [← h]; exact h1
  | 2, _, h => by injection h with h; rw [← h]; exact h2
  | j + 3, _, h => by simp at h
set_option maxRecDepth 100000 in
set_option maxHeartbeats 1000000 in
theorem can_any (A : Option Addr) (n c : Nat) (os : List OV) (i : Nat) (o p : OV) (w : World) (hO : ObsR w A n c os) (ho : ObR w o) (hi : i < n) (hn : n ≤ 8) (hp : os[i]? = some p) (hv : ∀ p ∈ os, p.valid = 0) (hov : o.valid = 0) : Calls Try.prog 81 #[.slice A n c, .int .i64 (i : Nat), obV o] w fun e w' => e = .returned (.bool (canB os i o p)) ∧ Q w w' := by
  have HOS := hide hO
  have HOB := hide ho
  have hWI := fun W (h : Q w W) => With_any A n c os i o W (hO.up h) hi hn
  have hof : o.1.n ≤ 512 := by have := (Fit.of ho hov).b; have := ho.b.len; omega
  have hpv := hv p (List.mem_of_getElem? hp)
  have hpo := hO.all p (List.mem_of_getElem? hp)
  have hpf : p.1.n ≤ 512 := by have := (Fit.of hpo hpv).b; have := hpo.b.len; omega
  have HVS := hide (valid_set (i := i) hv hov)
  have HPP := hide hp
  obtain ⟨os2, hos2⟩ : ∃ os2, os.set i o = os2 := ⟨_, rfl⟩
  have HOW := hide (fun (W : World) (V : Option Addr) (cv : Nat) (h : Q w W) (hr : W.ownsRow w.heap.size 34 3 (.slice V n cv) n (os2.flatMap encO)) => obs_with (hos2 ▸ hr) (hO.up h) (ho.up h))
  have hcb : canB os i o p = (room o.1.n == room p.1.n && (!dupB [] (namesF os2) && (putT (missL (tabF 0 0 os2) os2)).isEmpty)) := by rw [← hos2]; rfl
  rw [hcb]
  rw [hos2] at HOW HVS
  simp only [hos2] at hWI
  have HWI := hide hWI
  obtain ⟨⟨A0, n0, c0, bs⟩, ⟨A1, n1, c1, ss⟩, ⟨A2, n2, c2, ws⟩⟩ := o
  obtain ⟨⟨B0, m0, d0, bt⟩, ⟨B1, m1, d1, st⟩, ⟨B2, m2, d2, wt⟩⟩ := p
  dsimp only at hof hpf ⊢
  unfold obV SlV.val at HWI
  unfold obV SlV.val
  dsimp only at HWI ⊢
  obtain ⟨w1, hw1⟩ : ∃ w1, w.alloc (.cells #[.slice A0 n0 c0, .slice A1 n1 c1, .slice A2 n2 c2] 34) = w1 := ⟨_, rfl⟩
  have hq1 : Q w w1 := by rw [← hw1]; exact (Q.refl w).alloc _
  have hs1 : w.heap.size < w1.heap.size := by rw [← hw1]; simp
  have k0 : w1.cell? ⟨w.heap.size, 0, none⟩ = some (.slice A0 n0 c0) := by rw [← hw1]; simp
  have k1 : w1.cell? ⟨w.heap.size, 1, none⟩ = some (.slice A1 n1 c1) := by rw [← hw1]; simp
  have k2 : w1.cell? ⟨w.heap.size, 2, none⟩ = some (.slice A2 n2 c2) := by rw [← hw1]; simp
  have hii : (i : Int) < (n : Int) := by omega
  have hni : (n : Int) ≤ 8 := by omega
  have HQ1 := hide hq1
  have K0 := hide k0
  have K1 := hide k1
  have K2 := hide k2
  clear hq1 k0 k1 k2
  have HW1 := hide hw1
  have k0 := K0.out
  have k1 := K1.out
  have k2 := K2.out
  obtain ⟨ra, hra⟩ : ∃ ra, room n0 = ra := ⟨_, rfl⟩
  obtain ⟨rb, hrb⟩ : ∃ rb, room m0 = rb := ⟨_, rfl⟩
  obtain ⟨du, hdu⟩ : ∃ du, dupB [] (namesF os2) = du := ⟨_, rfl⟩
  rw [hra, hrb, hdu]
  have HRA := hide hra
  have HRB := hide hrb
  have HDU := hide hdu
  clear hra hrb hdu
  clear hO ho hv hov hpv hpo hp hcb hos2 hWI hw1
  go_enter Try.func81, Try.ntmps81
  go_wp2_with fail
  rw [HW1.out]
  refine (HWI.out w1 HQ1.out).mono ?_
  rintro e w2 ⟨v, rfl, hv, hq2⟩
  obtain ⟨V, cv, rfl, -⟩ := own_form hv
  have HQ2 := hide (HQ1.out.trans hq2)
  have HR := hide (HOW.out w2 V cv HQ2.out (own_lower hv (by omega)))
  have hs2 : w.heap.size < w2.heap.size := by have := hq2.size; omega
  have k0 := (hq2.facts.1 _ 0 hs1).trans K0.out
  have k1 := (hq2.facts.1 _ 1 hs1).trans K1.out
  have k2 := (hq2.facts.1 _ 2 hs1).trans K2.out
  obtain ⟨b1, o1, ob, rfl, hbb, g1, x1, x2, x3, hob⟩ := (HOS.out.up HQ2.out).at_ i hi
  obtain rfl : ob = (⟨B0, m0, d0, bt⟩, ⟨B1, m1, d1, st⟩, ⟨B2, m2, d2, wt⟩) := by have := g1.symm.trans HPP.out; injection this
  dsimp only at x1 x2 x3
  have R1 := hide (fun W => rRoom_any A0 n0 c0 (.slice A1 n1 c1) (.slice A2 n2 c2) W (by omega))
  have R2 := hide (fun W => rRoom_any B0 m0 d0 (.slice B1 m1 d1) (.slice B2 m2 d2) W (by omega))
  have HT := hide (fun W (h : Q w2 W) => twice_any V n cv os2 W (HR.out.up h) hn HVS.out)
  rw [HRA.out] at R1
  rw [HRB.out] at R2
  rw [HDU.out] at HT
  clear hv hq2 g1 hob
  by_cases hr : ra = rb
  · subst hr
    have t1 : ((ra : Int) == (ra : Int)) = true := by simp
    cases du with
    | true =>
      go_upto_region 2 with fail
      refine Ri.madeZ (C := fun W => Q w2 W) [] [0, 1, 2, 3, 4, 5, 6, 7, 8, 9, 10, 11, 12, 13, 14, 15, 16, 17, 18, 19] (fun w1 w3 X hq => X.trans hq) (Ri.phi [Ri.isV (.agg #[.slice A0 n0 c0, .slice A1 n1 c1, .slice A2 n2 c2]), Ri.isV (.int .i64 (ra : Nat)), Ri.isV (.slice (some ⟨b1, o1, none⟩) n c), Ri.isV (.int .i64 (i : Int)), Ri.isV (.pointer (some ⟨b1, o1 + i * 3, none⟩)), Ri.isV (.agg #[.slice B0 m0 d0, .slice B1 m1 d1, .slice B2 m2 d2]), Ri.isV (.int .i64 (ra : Nat)), Ri.isV (.bool true), Ri.isV (.bool true), Ri.isV (.slice V n cv), Ri.isV (.bool true), Ri.isV (.bool false), Ri.isV (.bool false), Ri.isV (.bool false), Ri.isV (undef), Ri.isV (undef), Ri.isV (undef), Ri.isV (undef), Ri.isV (.bool false), Ri.isV (.bool false)]) (by kernel_rfl) (by kernel_rfl) (by kernel_rfl) ((Q.refl _).drew) (Ri.phi_mono ?_) (Ri.phi_fix ?_) ?_ ?_
      · exact ⟨Ri.mono_isV _, Ri.mono_isV _, Ri.mono_isV _, Ri.mono_isV _, Ri.mono_isV _, Ri.mono_isV _, Ri.mono_isV _, Ri.mono_isV _, Ri.mono_isV _, Ri.mono_isV _, Ri.mono_isV _, Ri.mono_isV _, Ri.mono_isV _, Ri.mono_isV _, Ri.mono_isV _, Ri.mono_isV _, Ri.mono_isV _, Ri.mono_isV _, Ri.mono_isV _, Ri.mono_isV _, trivial⟩
      · exact ⟨fun _ => Ri.fix_isV _, fun _ => Ri.fix_isV _, fun _ => Ri.fix_isV _, fun _ => Ri.fix_isV _, fun _ => Ri.fix_isV _, fun _ => Ri.fix_isV _, fun _ => Ri.fix_isV _, fun _ => Ri.fix_isV _, fun _ => Ri.fix_isV _, fun _ => Ri.fix_isV _, fun _ => Ri.fix_isV _, fun _ => Ri.fix_isV _, fun _ => Ri.fix_isV _, fun _ => Ri.fix_isV _, fun _ => Ri.fix_isV _, fun _ => Ri.fix_isV _, fun _ => Ri.fix_isV _, fun _ => Ri.fix_isV _, fun _ => Ri.fix_isV _, fun _ => Ri.fix_isV _, trivial⟩
      · refine Ri.All.cons ?_ (Ri.All.cons ?_ (Ri.All.cons ?_ (Ri.All.cons ?_ (Ri.All.cons ?_ (Ri.All.cons ?_ (Ri.All.cons ?_ (Ri.All.cons ?_ (Ri.All.cons ?_ (Ri.All.cons ?_ (Ri.All.cons ?_ (Ri.All.cons ?_ (Ri.All.cons ?_ (Ri.All.cons ?_ (Ri.All.cons ?_ (Ri.All.cons ?_ (Ri.All.cons ?_ (Ri.All.cons ?_ (Ri.All.cons ?_ (Ri.All.cons ?_ (Ri.All.nil))))))))))))))))))))
        · refine Ri.StepZ.q (by kernel_rfl) rfl fun f W hq hf A hA hB hO => ?_
          have e1 := (hB 5 (by kernel_rfl)).trans (show _ = .pointer (some ⟨w.heap.size, 0, none⟩) by simp [Act.eval])
          have h0 := (hq.facts.1 _ 0 hs2).trans k0
          have h1 := (hq.facts.1 _ 1 hs2).trans k1
          have h2 := (hq.facts.1 _ 2 hs2).trans k2
          exact Ri.wp_value _ (Ri.run_ldagg (cs := [.slice A0 n0 c0, .slice A1 n1 c1, .slice A2 n2 c2]) rfl e1 (c3 h0 h1 h2) Try.underlying34 rfl (by kernel_rfl)) rfl
        · refine Ri.StepZ.q (by kernel_rfl) rfl fun f W hq hf A hA hB hO => ?_
          have e1 := (hA 12 0 (by kernel_rfl) (by simp)).trans (show f 0 = _ from hf 0 (by kernel_rfl))
          refine Ri.wp_call #[.agg #[.slice A0 n0 c0, .slice A1 n1 c1, .slice A2 n2 c2]] rfl (by simp [e1]) Try.func91 (by kernel_rfl) (by kernel_rfl) ((R1.out W).mono ?_)
          rintro e w3 ⟨rfl, h1⟩
          exact ⟨_, rfl, h1, rfl⟩
        · refine Ri.StepZ.q (by kernel_rfl) rfl fun f W hq hf A hA hB hO => ?_
          have e1 := (hB 0 (by kernel_rfl)).trans (show _ = .slice (some ⟨b1, o1, none⟩) n c by simp [Act.eval])
          exact Ri.wp_value _ (Ri.run_mv rfl e1) rfl
        · refine Ri.StepZ.q (by kernel_rfl) rfl fun f W hq hf A hA hB hO => ?_
          have e1 := (hB 1 (by kernel_rfl)).trans (show _ = .int .i64 (i : Int) by simp [Act.eval])
          exact Ri.wp_value _ (Ri.run_mv rfl e1) rfl
        · refine Ri.StepZ.q (by kernel_rfl) rfl fun f W hq hf A hA hB hO => ?_
          have e1 := (hA 14 2 (by kernel_rfl) (by simp)).trans (show f 2 = _ from hf 2 (by kernel_rfl))
          have e2 := (hA 15 3 (by kernel_rfl) (by simp)).trans (show f 3 = _ from hf 3 (by kernel_rfl))
          exact Ri.wp_value _ (Ri.run_idx rfl e1 e2 Try.underlying22 (sz := 3) (by kernel_rfl) hi) rfl
        · refine Ri.StepZ.q (by kernel_rfl) rfl fun f W hq hf A hA hB hO => ?_
          have e1 := (hA 16 4 (by kernel_rfl) (by simp)).trans (show f 4 = _ from hf 4 (by kernel_rfl))
          have h0 := (hq.facts.1 _ _ hbb).trans x1
          have h1 := (hq.facts.1 _ _ hbb).trans x2
          have h2 := (hq.facts.1 _ _ hbb).trans x3
          exact Ri.wp_value _ (Ri.run_ldagg (cs := [.slice B0 m0 d0, .slice B1 m1 d1, .slice B2 m2 d2]) rfl e1 (c3 h0 h1 h2) Try.underlying34 rfl (by kernel_rfl)) rfl
        · refine Ri.StepZ.q (by kernel_rfl) rfl fun f W hq hf A hA hB hO => ?_
          have e1 := (hA 17 5 (by kernel_rfl) (by simp)).trans (show f 5 = _ from hf 5 (by kernel_rfl))
          refine Ri.wp_call #[.agg #[.slice B0 m0 d0, .slice B1 m1 d1, .slice B2 m2 d2]] rfl (by simp [e1]) Try.func91 (by kernel_rfl) (by kernel_rfl) ((R2.out W).mono ?_)
          rintro e w3 ⟨rfl, h1⟩
          exact ⟨_, rfl, h1, rfl⟩
        · refine Ri.StepZ.q (by kernel_rfl) rfl fun f W hq hf A hA hB hO => ?_
          have e1 := (hA 13 1 (by kernel_rfl) (by simp)).trans (show f 1 = _ from hf 1 (by kernel_rfl))
          have e2 := (hA 18 6 (by kernel_rfl) (by simp)).trans (show f 6 = _ from hf 6 (by kernel_rfl))
          exact Ri.wp_value _ (t1 ▸ Ri.run_eql rfl e1 e2 Try.underlying3) rfl
        · refine Ri.StepZ.q (by kernel_rfl) rfl fun f W hq hf A hA hB hO => ?_
          have e1 := (hA 19 7 (by kernel_rfl) (by simp)).trans (show f 7 = _ from hf 7 (by kernel_rfl))
          exact Ri.wp_value _ (Ri.run_mv rfl e1) rfl
        · refine Ri.StepZ.gq (by kernel_rfl) rfl rfl (by simp) fun f W hq hf A hA hB hO => ⟨hf 8 (by kernel_rfl), ?_⟩
          have e1 := (hB 7 (by kernel_rfl)).trans (show _ = .slice V n cv by simp [Act.eval])
          exact Ri.wp_value _ (Ri.run_mv rfl e1) rfl
        · refine Ri.StepZ.gq (by kernel_rfl) rfl rfl (by simp) fun f W hq hf A hA hB hO => ⟨hf 8 (by kernel_rfl), ?_⟩
          have e1 := (hA 21 9 (by kernel_rfl) (by simp)).trans (show f 9 = _ from hf 9 (by kernel_rfl))
          refine Ri.wp_call #[.slice V n cv] rfl (by simp [e1]) Try.func90 (by kernel_rfl) (by kernel_rfl) ((HT.out W hq).mono ?_)
          rintro e w3 ⟨rfl, h1⟩
          exact ⟨_, rfl, h1, rfl⟩
        · refine Ri.StepZ.gq (by kernel_rfl) rfl rfl (by simp) fun f W hq hf A hA hB hO => ⟨hf 8 (by kernel_rfl), ?_⟩
          have e1 := (hA 22 10 (by kernel_rfl) (by simp)).trans (show f 10 = _ from hf 10 (by kernel_rfl))
          exact Ri.wp_value _ (Ri.run_not rfl e1) rfl
        · refine Ri.StepZ.q (by kernel_rfl) rfl fun f W hq hf A hA hB hO => ?_
          have e1 := (hA 20 8 (by kernel_rfl) (by simp)).trans (show f 8 = _ from hf 8 (by kernel_rfl))
          have e2 := (hA 23 11 (by kernel_rfl) (by simp)).trans (show f 11 = _ from hf 11 (by kernel_rfl))
          exact Ri.wp_value _ (Ri.run_pick rfl e1 (by simpa using e2)) rfl
        · refine Ri.StepZ.q (by kernel_rfl) rfl fun f W hq hf A hA hB hO => ?_
          have e1 := (hA 24 12 (by kernel_rfl) (by simp)).trans (show f 12 = _ from hf 12 (by kernel_rfl))
          exact Ri.wp_value _ (Ri.run_mv rfl e1) rfl
        · refine Ri.StepZ.off rfl rfl (by simp) fun f W hq hf => ⟨hf 13 (by kernel_rfl), rfl⟩
        · refine Ri.StepZ.off rfl rfl (by simp) fun f W hq hf => ⟨hf 13 (by kernel_rfl), rfl⟩
        · refine Ri.StepZ.off rfl rfl (by simp) fun f W hq hf => ⟨hf 13 (by kernel_rfl), rfl⟩
        · refine Ri.StepZ.off rfl rfl (by simp) fun f W hq hf => ⟨hf 13 (by kernel_rfl), rfl⟩
        · refine Ri.StepZ.q (by kernel_rfl) rfl fun f W hq hf A hA hB hO => ?_
          have e1 := (hA 25 13 (by kernel_rfl) (by simp)).trans (show f 13 = _ from hf 13 (by kernel_rfl))
          exact Ri.wp_value _ (Ri.run_pick rfl e1 (by simp [Act.eval])) rfl
        · refine Ri.StepZ.q (by kernel_rfl) rfl fun f W hq hf A hA hB hO => ?_
          have e1 := (hA 30 18 (by kernel_rfl) (by simp)).trans (show f 18 = _ from hf 18 (by kernel_rfl))
          exact Ri.wp_value _ (Ri.run_asg rfl e1) rfl
      · intro f W hq hf
        have e19 : f 19 = .bool false := hf 19 (by decide) (by kernel_rfl)
        simp only [Ri.acts, Act.put, List.setIfInBounds_toArray, List.set_cons_zero, List.set_cons_succ, Nat.zero_add, Nat.reduceAdd]
        rw [e19]
        have HXW := hide hq
        clear hf hq e19
        go_wp2_with fail
        go_ret
        exact ⟨by simp, HQ2.out.trans HXW.out⟩
    | false =>
      obtain ⟨N, hN⟩ : ∃ N, (putT (missL (tabF 0 0 os2) os2)).length = N := ⟨_, rfl⟩
      have HM := hide (fun W (h : Q w2 W) => rmissing_any V n cv os2 W (HR.out.up h) hn HVS.out)
      rw [hN] at HM
      obtain ⟨bz, hbz⟩ : ∃ bz, bz = ((N : Int) == 0) := ⟨_, rfl⟩
      have HBZ := hide hbz.symm
      have hem : (putT (missL (tabF 0 0 os2) os2)).isEmpty = bz := by
        rw [hbz, ← hN]
        cases putT (missL (tabF 0 0 os2) os2) with
        | nil => rfl
        | cons a l => simp; omega
      have HEM := hide hem
      clear hN hbz hem
      go_upto_region 2 with fail
      refine Ri.madeZ (C := fun W => Q w2 W) [] [0, 1, 2, 3, 4, 5, 6, 7, 8, 9, 10, 11, 12, 13, 14, 16, 17, 18, 19] (fun w1 w3 X hq => X.trans hq) (Ri.phi [Ri.isV (.agg #[.slice A0 n0 c0, .slice A1 n1 c1, .slice A2 n2 c2]), Ri.isV (.int .i64 (ra : Nat)), Ri.isV (.slice (some ⟨b1, o1, none⟩) n c), Ri.isV (.int .i64 (i : Int)), Ri.isV (.pointer (some ⟨b1, o1 + i * 3, none⟩)), Ri.isV (.agg #[.slice B0 m0 d0, .slice B1 m1 d1, .slice B2 m2 d2]), Ri.isV (.int .i64 (ra : Nat)), Ri.isV (.bool true), Ri.isV (.bool true), Ri.isV (.slice V n cv), Ri.isV (.bool false), Ri.isV (.bool true), Ri.isV (.bool true), Ri.isV (.bool true), Ri.isV (.slice V n cv), (fun v _ => ∃ (a : Option Addr) (k : Nat), v = .slice a N k), Ri.isV (.int .i64 (N : Nat)), Ri.isV (.bool bz), Ri.isV (.bool bz), Ri.isV (.bool bz)]) (by kernel_rfl) (by kernel_rfl) (by kernel_rfl) ((Q.refl _).drew) (Ri.phi_mono ?_) (Ri.phi_fix ?_) ?_ ?_
      · exact ⟨Ri.mono_isV _, Ri.mono_isV _, Ri.mono_isV _, Ri.mono_isV _, Ri.mono_isV _, Ri.mono_isV _, Ri.mono_isV _, Ri.mono_isV _, Ri.mono_isV _, Ri.mono_isV _, Ri.mono_isV _, Ri.mono_isV _, Ri.mono_isV _, Ri.mono_isV _, Ri.mono_isV _, (fun _ _ _ h _ => h), Ri.mono_isV _, Ri.mono_isV _, Ri.mono_isV _, Ri.mono_isV _, trivial⟩
      · exact ⟨fun _ => Ri.fix_isV _, fun _ => Ri.fix_isV _, fun _ => Ri.fix_isV _, fun _ => Ri.fix_isV _, fun _ => Ri.fix_isV _, fun _ => Ri.fix_isV _, fun _ => Ri.fix_isV _, fun _ => Ri.fix_isV _, fun _ => Ri.fix_isV _, fun _ => Ri.fix_isV _, fun _ => Ri.fix_isV _, fun _ => Ri.fix_isV _, fun _ => Ri.fix_isV _, fun _ => Ri.fix_isV _, fun _ => Ri.fix_isV _, fun h => absurd h (by decide), fun _ => Ri.fix_isV _, fun _ => Ri.fix_isV _, fun _ => Ri.fix_isV _, fun _ => Ri.fix_isV _, trivial⟩
      · refine Ri.All.cons ?_ (Ri.All.cons ?_ (Ri.All.cons ?_ (Ri.All.cons ?_ (Ri.All.cons ?_ (Ri.All.cons ?_ (Ri.All.cons ?_ (Ri.All.cons ?_ (Ri.All.cons ?_ (Ri.All.cons ?_ (Ri.All.cons ?_ (Ri.All.cons ?_ (Ri.All.cons ?_ (Ri.All.cons ?_ (Ri.All.cons ?_ (Ri.All.cons ?_ (Ri.All.cons ?_ (Ri.All.cons ?_ (Ri.All.cons ?_ (Ri.All.cons ?_ (Ri.All.nil))))))))))))))))))))
        · refine Ri.StepZ.q (by kernel_rfl) rfl fun f W hq hf A hA hB hO => ?_
          have e1 := (hB 5 (by kernel_rfl)).trans (show _ = .pointer (some ⟨w.heap.size, 0, none⟩) by simp [Act.eval])
          have h0 := (hq.facts.1 _ 0 hs2).trans k0
          have h1 := (hq.facts.1 _ 1 hs2).trans k1
          have h2 := (hq.facts.1 _ 2 hs2).trans k2
          exact Ri.wp_value _ (Ri.run_ldagg (cs := [.slice A0 n0 c0, .slice A1 n1 c1, .slice A2 n2 c2]) rfl e1 (c3 h0 h1 h2) Try.underlying34 rfl (by kernel_rfl)) rfl
        · refine Ri.StepZ.q (by kernel_rfl) rfl fun f W hq hf A hA hB hO => ?_
          have e1 := (hA 12 0 (by kernel_rfl) (by simp)).trans (show f 0 = _ from hf 0 (by kernel_rfl))
          refine Ri.wp_call #[.agg #[.slice A0 n0 c0, .slice A1 n1 c1, .slice A2 n2 c2]] rfl (by simp [e1]) Try.func91 (by kernel_rfl) (by kernel_rfl) ((R1.out W).mono ?_)
          rintro e w3 ⟨rfl, h1⟩
          exact ⟨_, rfl, h1, rfl⟩
        · refine Ri.StepZ.q (by kernel_rfl) rfl fun f W hq hf A hA hB hO => ?_
          have e1 := (hB 0 (by kernel_rfl)).trans (show _ = .slice (some ⟨b1, o1, none⟩) n c by simp [Act.eval])
          exact Ri.wp_value _ (Ri.run_mv rfl e1) rfl
        · refine Ri.StepZ.q (by kernel_rfl) rfl fun f W hq hf A hA hB hO => ?_
          have e1 := (hB 1 (by kernel_rfl)).trans (show _ = .int .i64 (i : Int) by simp [Act.eval])
          exact Ri.wp_value _ (Ri.run_mv rfl e1) rfl
        · refine Ri.StepZ.q (by kernel_rfl) rfl fun f W hq hf A hA hB hO => ?_
          have e1 := (hA 14 2 (by kernel_rfl) (by simp)).trans (show f 2 = _ from hf 2 (by kernel_rfl))
          have e2 := (hA 15 3 (by kernel_rfl) (by simp)).trans (show f 3 = _ from hf 3 (by kernel_rfl))
          exact Ri.wp_value _ (Ri.run_idx rfl e1 e2 Try.underlying22 (sz := 3) (by kernel_rfl) hi) rfl
        · refine Ri.StepZ.q (by kernel_rfl) rfl fun f W hq hf A hA hB hO => ?_
          have e1 := (hA 16 4 (by kernel_rfl) (by simp)).trans (show f 4 = _ from hf 4 (by kernel_rfl))
          have h0 := (hq.facts.1 _ _ hbb).trans x1
          have h1 := (hq.facts.1 _ _ hbb).trans x2
          have h2 := (hq.facts.1 _ _ hbb).trans x3
          exact Ri.wp_value _ (Ri.run_ldagg (cs := [.slice B0 m0 d0, .slice B1 m1 d1, .slice B2 m2 d2]) rfl e1 (c3 h0 h1 h2) Try.underlying34 rfl (by kernel_rfl)) rfl
        · refine Ri.StepZ.q (by kernel_rfl) rfl fun f W hq hf A hA hB hO => ?_
          have e1 := (hA 17 5 (by kernel_rfl) (by simp)).trans (show f 5 = _ from hf 5 (by kernel_rfl))
          refine Ri.wp_call #[.agg #[.slice B0 m0 d0, .slice B1 m1 d1, .slice B2 m2 d2]] rfl (by simp [e1]) Try.func91 (by kernel_rfl) (by kernel_rfl) ((R2.out W).mono ?_)
          rintro e w3 ⟨rfl, h1⟩
          exact ⟨_, rfl, h1, rfl⟩
        · refine Ri.StepZ.q (by kernel_rfl) rfl fun f W hq hf A hA hB hO => ?_
          have e1 := (hA 13 1 (by kernel_rfl) (by simp)).trans (show f 1 = _ from hf 1 (by kernel_rfl))
          have e2 := (hA 18 6 (by kernel_rfl) (by simp)).trans (show f 6 = _ from hf 6 (by kernel_rfl))
          exact Ri.wp_value _ (t1 ▸ Ri.run_eql rfl e1 e2 Try.underlying3) rfl
        · refine Ri.StepZ.q (by kernel_rfl) rfl fun f W hq hf A hA hB hO => ?_
          have e1 := (hA 19 7 (by kernel_rfl) (by simp)).trans (show f 7 = _ from hf 7 (by kernel_rfl))
          exact Ri.wp_value _ (Ri.run_mv rfl e1) rfl
        · refine Ri.StepZ.gq (by kernel_rfl) rfl rfl (by simp) fun f W hq hf A hA hB hO => ⟨hf 8 (by kernel_rfl), ?_⟩
          have e1 := (hB 7 (by kernel_rfl)).trans (show _ = .slice V n cv by simp [Act.eval])
          exact Ri.wp_value _ (Ri.run_mv rfl e1) rfl
        · refine Ri.StepZ.gq (by kernel_rfl) rfl rfl (by simp) fun f W hq hf A hA hB hO => ⟨hf 8 (by kernel_rfl), ?_⟩
          have e1 := (hA 21 9 (by kernel_rfl) (by simp)).trans (show f 9 = _ from hf 9 (by kernel_rfl))
          refine Ri.wp_call #[.slice V n cv] rfl (by simp [e1]) Try.func90 (by kernel_rfl) (by kernel_rfl) ((HT.out W hq).mono ?_)
          rintro e w3 ⟨rfl, h1⟩
          exact ⟨_, rfl, h1, rfl⟩
        · refine Ri.StepZ.gq (by kernel_rfl) rfl rfl (by simp) fun f W hq hf A hA hB hO => ⟨hf 8 (by kernel_rfl), ?_⟩
          have e1 := (hA 22 10 (by kernel_rfl) (by simp)).trans (show f 10 = _ from hf 10 (by kernel_rfl))
          exact Ri.wp_value _ (Ri.run_not rfl e1) rfl
        · refine Ri.StepZ.q (by kernel_rfl) rfl fun f W hq hf A hA hB hO => ?_
          have e1 := (hA 20 8 (by kernel_rfl) (by simp)).trans (show f 8 = _ from hf 8 (by kernel_rfl))
          have e2 := (hA 23 11 (by kernel_rfl) (by simp)).trans (show f 11 = _ from hf 11 (by kernel_rfl))
          exact Ri.wp_value _ (Ri.run_pick rfl e1 (by simpa using e2)) rfl
        · refine Ri.StepZ.q (by kernel_rfl) rfl fun f W hq hf A hA hB hO => ?_
          have e1 := (hA 24 12 (by kernel_rfl) (by simp)).trans (show f 12 = _ from hf 12 (by kernel_rfl))
          exact Ri.wp_value _ (Ri.run_mv rfl e1) rfl
        · refine Ri.StepZ.gq (by kernel_rfl) rfl rfl (by simp) fun f W hq hf A hA hB hO => ⟨hf 13 (by kernel_rfl), ?_⟩
          have e1 := (hB 7 (by kernel_rfl)).trans (show _ = .slice V n cv by simp [Act.eval])
          exact Ri.wp_value _ (Ri.run_mv rfl e1) rfl
        · refine Ri.StepZ.gq (by kernel_rfl) rfl rfl (by simp) fun f W hq hf A hA hB hO => ⟨hf 13 (by kernel_rfl), ?_⟩
          have e1 := (hA 26 14 (by kernel_rfl) (by simp)).trans (show f 14 = _ from hf 14 (by kernel_rfl))
          refine Ri.wp_call #[.slice V n cv] rfl (by simp [e1]) Try.func76 (by kernel_rfl) (by kernel_rfl) ((HM.out W hq).mono ?_)
          rintro e w3 ⟨v3, rfl, ho3, h1⟩
          obtain ⟨a3, k3, rfl, -⟩ := own_form ho3
          exact ⟨_, rfl, h1, _, _, rfl⟩
        · refine Ri.StepZ.gq (by kernel_rfl) rfl rfl (by simp) fun f W hq hf A hA hB hO => ⟨hf 13 (by kernel_rfl), ?_⟩
          obtain ⟨a3, k3, h3⟩ : ∃ (a : Option Addr) (k : Nat), f 15 = .slice a N k := hf 15 (by kernel_rfl)
          have e1 := (hA 27 15 (by kernel_rfl) (by simp)).trans h3
          exact Ri.wp_value _ (Ri.run_len rfl e1 Try.underlying57) rfl
        · refine Ri.StepZ.gq (by kernel_rfl) rfl rfl (by simp) fun f W hq hf A hA hB hO => ⟨hf 13 (by kernel_rfl), ?_⟩
          have e1 := (hA 28 16 (by kernel_rfl) (by simp)).trans (show f 16 = _ from hf 16 (by kernel_rfl))
          have e2 : A.eval (.const (.int .i64 0)) = .int .i64 0 := rfl
          exact Ri.wp_value _ (HBZ.out ▸ Ri.run_eql rfl e1 e2 Try.underlying3) rfl
        · refine Ri.StepZ.q (by kernel_rfl) rfl fun f W hq hf A hA hB hO => ?_
          have e1 := (hA 25 13 (by kernel_rfl) (by simp)).trans (show f 13 = _ from hf 13 (by kernel_rfl))
          have e2 := (hA 29 17 (by kernel_rfl) (by simp)).trans (show f 17 = _ from hf 17 (by kernel_rfl))
          exact Ri.wp_value _ (Ri.run_pick rfl e1 (by simpa using e2)) rfl
        · refine Ri.StepZ.q (by kernel_rfl) rfl fun f W hq hf A hA hB hO => ?_
          have e1 := (hA 30 18 (by kernel_rfl) (by simp)).trans (show f 18 = _ from hf 18 (by kernel_rfl))
          exact Ri.wp_value _ (Ri.run_asg rfl e1) rfl
      · intro f W hq hf
        have e19 : f 19 = .bool bz := hf 19 (by decide) (by kernel_rfl)
        simp only [Ri.acts, Act.put, List.setIfInBounds_toArray, List.set_cons_zero, List.set_cons_succ, Nat.zero_add, Nat.reduceAdd]
        rw [e19]
        have HXW := hide hq
        clear hf hq e19
        go_wp2_with fail
        go_ret
        exact ⟨by rw [HEM.out]; simp, HQ2.out.trans HXW.out⟩
  · have t1 : ((ra : Int) == (rb : Int)) = false := by simp; omega
    have t2 : (ra == rb) = false := by simp [hr]
    go_upto_region 2 with fail
    refine Ri.madeZ (C := fun W => Q w2 W) [] [0, 1, 2, 3, 4, 5, 6, 7, 8, 9, 10, 11, 12, 13, 14, 15, 16, 17, 18, 19] (fun w1 w3 X hq => X.trans hq) (Ri.phi [Ri.isV (.agg #[.slice A0 n0 c0, .slice A1 n1 c1, .slice A2 n2 c2]), Ri.isV (.int .i64 (ra : Nat)), Ri.isV (.slice (some ⟨b1, o1, none⟩) n c), Ri.isV (.int .i64 (i : Int)), Ri.isV (.pointer (some ⟨b1, o1 + i * 3, none⟩)), Ri.isV (.agg #[.slice B0 m0 d0, .slice B1 m1 d1, .slice B2 m2 d2]), Ri.isV (.int .i64 (rb : Nat)), Ri.isV (.bool false), Ri.isV (.bool false), Ri.isV (undef), Ri.isV (undef), Ri.isV (undef), Ri.isV (.bool false), Ri.isV (.bool false), Ri.isV (undef), Ri.isV (undef), Ri.isV (undef), Ri.isV (undef), Ri.isV (.bool false), Ri.isV (.bool false)]) (by kernel_rfl) (by kernel_rfl) (by kernel_rfl) ((Q.refl _).drew) (Ri.phi_mono ?_) (Ri.phi_fix ?_) ?_ ?_
    · exact ⟨Ri.mono_isV _, Ri.mono_isV _, Ri.mono_isV _, Ri.mono_isV _, Ri.mono_isV _, Ri.mono_isV _, Ri.mono_isV _, Ri.mono_isV _, Ri.mono_isV _, Ri.mono_isV _, Ri.mono_isV _, Ri.mono_isV _, Ri.mono_isV _, Ri.mono_isV _, Ri.mono_isV _, Ri.mono_isV _, Ri.mono_isV _, Ri.mono_isV _, Ri.mono_isV _, Ri.mono_isV _, trivial⟩
    · exact ⟨fun _ => Ri.fix_isV _, fun _ => Ri.fix_isV _, fun _ => Ri.fix_isV _, fun _ => Ri.fix_isV _, fun _ => Ri.fix_isV _, fun _ => Ri.fix_isV _, fun _ => Ri.fix_isV _, fun _ => Ri.fix_isV _, fun _ => Ri.fix_isV _, fun _ => Ri.fix_isV _, fun _ => Ri.fix_isV _, fun _ => Ri.fix_isV _, fun _ => Ri.fix_isV _, fun _ => Ri.fix_isV _, fun _ => Ri.fix_isV _, fun _ => Ri.fix_isV _, fun _ => Ri.fix_isV _, fun _ => Ri.fix_isV _, fun _ => Ri.fix_isV _, fun _ => Ri.fix_isV _, trivial⟩
    · refine Ri.All.cons ?_ (Ri.All.cons ?_ (Ri.All.cons ?_ (Ri.All.cons ?_ (Ri.All.cons ?_ (Ri.All.cons ?_ (Ri.All.cons ?_ (Ri.All.cons ?_ (Ri.All.cons ?_ (Ri.All.cons ?_ (Ri.All.cons ?_ (Ri.All.cons ?_ (Ri.All.cons ?_ (Ri.All.cons ?_ (Ri.All.cons ?_ (Ri.All.cons ?_ (Ri.All.cons ?_ (Ri.All.cons ?_ (Ri.All.cons ?_ (Ri.All.cons ?_ (Ri.All.nil))))))))))))))))))))
      · refine Ri.StepZ.q (by kernel_rfl) rfl fun f W hq hf A hA hB hO => ?_
        have e1 := (hB 5 (by kernel_rfl)).trans (show _ = .pointer (some ⟨w.heap.size, 0, none⟩) by simp [Act.eval])
        have h0 := (hq.facts.1 _ 0 hs2).trans k0
        have h1 := (hq.facts.1 _ 1 hs2).trans k1
        have h2 := (hq.facts.1 _ 2 hs2).trans k2
        exact Ri.wp_value _ (Ri.run_ldagg (cs := [.slice A0 n0 c0, .slice A1 n1 c1, .slice A2 n2 c2]) rfl e1 (c3 h0 h1 h2) Try.underlying34 rfl (by kernel_rfl)) rfl
      · refine Ri.StepZ.q (by kernel_rfl) rfl fun f W hq hf A hA hB hO => ?_
        have e1 := (hA 12 0 (by kernel_rfl) (by simp)).trans (show f 0 = _ from hf 0 (by kernel_rfl))
        refine Ri.wp_call #[.agg #[.slice A0 n0 c0, .slice A1 n1 c1, .slice A2 n2 c2]] rfl (by simp [e1]) Try.func91 (by kernel_rfl) (by kernel_rfl) ((R1.out W).mono ?_)
        rintro e w3 ⟨rfl, h1⟩
        exact ⟨_, rfl, h1, rfl⟩
      · refine Ri.StepZ.q (by kernel_rfl) rfl fun f W hq hf A hA hB hO => ?_
        have e1 := (hB 0 (by kernel_rfl)).trans (show _ = .slice (some ⟨b1, o1, none⟩) n c by simp [Act.eval])
        exact Ri.wp_value _ (Ri.run_mv rfl e1) rfl
      · refine Ri.StepZ.q (by kernel_rfl) rfl fun f W hq hf A hA hB hO => ?_
        have e1 := (hB 1 (by kernel_rfl)).trans (show _ = .int .i64 (i : Int) by simp [Act.eval])
        exact Ri.wp_value _ (Ri.run_mv rfl e1) rfl
      · refine Ri.StepZ.q (by kernel_rfl) rfl fun f W hq hf A hA hB hO => ?_
        have e1 := (hA 14 2 (by kernel_rfl) (by simp)).trans (show f 2 = _ from hf 2 (by kernel_rfl))
        have e2 := (hA 15 3 (by kernel_rfl) (by simp)).trans (show f 3 = _ from hf 3 (by kernel_rfl))
        exact Ri.wp_value _ (Ri.run_idx rfl e1 e2 Try.underlying22 (sz := 3) (by kernel_rfl) hi) rfl
      · refine Ri.StepZ.q (by kernel_rfl) rfl fun f W hq hf A hA hB hO => ?_
        have e1 := (hA 16 4 (by kernel_rfl) (by simp)).trans (show f 4 = _ from hf 4 (by kernel_rfl))
        have h0 := (hq.facts.1 _ _ hbb).trans x1
        have h1 := (hq.facts.1 _ _ hbb).trans x2
        have h2 := (hq.facts.1 _ _ hbb).trans x3
        exact Ri.wp_value _ (Ri.run_ldagg (cs := [.slice B0 m0 d0, .slice B1 m1 d1, .slice B2 m2 d2]) rfl e1 (c3 h0 h1 h2) Try.underlying34 rfl (by kernel_rfl)) rfl
      · refine Ri.StepZ.q (by kernel_rfl) rfl fun f W hq hf A hA hB hO => ?_
        have e1 := (hA 17 5 (by kernel_rfl) (by simp)).trans (show f 5 = _ from hf 5 (by kernel_rfl))
        refine Ri.wp_call #[.agg #[.slice B0 m0 d0, .slice B1 m1 d1, .slice B2 m2 d2]] rfl (by simp [e1]) Try.func91 (by kernel_rfl) (by kernel_rfl) ((R2.out W).mono ?_)
        rintro e w3 ⟨rfl, h1⟩
        exact ⟨_, rfl, h1, rfl⟩
      · refine Ri.StepZ.q (by kernel_rfl) rfl fun f W hq hf A hA hB hO => ?_
        have e1 := (hA 13 1 (by kernel_rfl) (by simp)).trans (show f 1 = _ from hf 1 (by kernel_rfl))
        have e2 := (hA 18 6 (by kernel_rfl) (by simp)).trans (show f 6 = _ from hf 6 (by kernel_rfl))
        exact Ri.wp_value _ (t1 ▸ Ri.run_eql rfl e1 e2 Try.underlying3) rfl
      · refine Ri.StepZ.q (by kernel_rfl) rfl fun f W hq hf A hA hB hO => ?_
        have e1 := (hA 19 7 (by kernel_rfl) (by simp)).trans (show f 7 = _ from hf 7 (by kernel_rfl))
        exact Ri.wp_value _ (Ri.run_mv rfl e1) rfl
      · refine Ri.StepZ.off rfl rfl (by simp) fun f W hq hf => ⟨hf 8 (by kernel_rfl), rfl⟩
      · refine Ri.StepZ.off rfl rfl (by simp) fun f W hq hf => ⟨hf 8 (by kernel_rfl), rfl⟩
      · refine Ri.StepZ.off rfl rfl (by simp) fun f W hq hf => ⟨hf 8 (by kernel_rfl), rfl⟩
      · refine Ri.StepZ.q (by kernel_rfl) rfl fun f W hq hf A hA hB hO => ?_
        have e1 := (hA 20 8 (by kernel_rfl) (by simp)).trans (show f 8 = _ from hf 8 (by kernel_rfl))
        exact Ri.wp_value _ (Ri.run_pick rfl e1 (by simp [Act.eval])) rfl
      · refine Ri.StepZ.q (by kernel_rfl) rfl fun f W hq hf A hA hB hO => ?_
        have e1 := (hA 24 12 (by kernel_rfl) (by simp)).trans (show f 12 = _ from hf 12 (by kernel_rfl))
        exact Ri.wp_value _ (Ri.run_mv rfl e1) rfl
      · refine Ri.StepZ.off rfl rfl (by simp) fun f W hq hf => ⟨hf 13 (by kernel_rfl), rfl⟩
      · refine Ri.StepZ.off rfl rfl (by simp) fun f W hq hf => ⟨hf 13 (by kernel_rfl), rfl⟩
      · refine Ri.StepZ.off rfl rfl (by simp) fun f W hq hf => ⟨hf 13 (by kernel_rfl), rfl⟩
      · refine Ri.StepZ.off rfl rfl (by simp) fun f W hq hf => ⟨hf 13 (by kernel_rfl), rfl⟩
      · refine Ri.StepZ.q (by kernel_rfl) rfl fun f W hq hf A hA hB hO => ?_
        have e1 := (hA 25 13 (by kernel_rfl) (by simp)).trans (show f 13 = _ from hf 13 (by kernel_rfl))
        exact Ri.wp_value _ (Ri.run_pick rfl e1 (by simp [Act.eval])) rfl
      · refine Ri.StepZ.q (by kernel_rfl) rfl fun f W hq hf A hA hB hO => ?_
        have e1 := (hA 30 18 (by kernel_rfl) (by simp)).trans (show f 18 = _ from hf 18 (by kernel_rfl))
        exact Ri.wp_value _ (Ri.run_asg rfl e1) rfl
    · intro f W hq hf
      have e19 : f 19 = .bool false := hf 19 (by decide) (by kernel_rfl)
      simp only [Ri.acts, Act.put, List.setIfInBounds_toArray, List.set_cons_zero, List.set_cons_succ, Nat.zero_add, Nat.reduceAdd]
      rw [e19]
      have HXW := hide hq
      clear hf hq e19
      go_wp2_with fail
      go_ret
      exact ⟨by rw [t2]; rfl, HQ2.out.trans HXW.out⟩
end Go.Proofs.Ytiilkiggfjpibaa
