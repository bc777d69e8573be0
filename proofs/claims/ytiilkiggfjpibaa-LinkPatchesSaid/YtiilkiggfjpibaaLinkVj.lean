/- The walk of the program's after. Conditions: the objects read as such and are valid; the change's cells hold them. -/
import Derived.Test.YtiilkiggfjpibaaLinkVi
namespace Go.Proofs.Ytiilkiggfjpibaa
open Go.RowKit LK
set_option linter.unusedVariables false
set_option linter.unusedSimpArgs false
namespace Ri
theorem run_neq {P : Program} {o : Oper} {A : Act} {w : World} {x y : Operand} {t t' : TypeId} {k : IntKind} {p u : Int} (ho : o.op = .binOp .neq t x y t') (hx : A.eval x = .int k p) (hy : A.eval y = .int k u) (hu : P.underlying t = some (.int k)) : (execOp A.eval o).run P w = .ok (.value (.bool (p != u))) w := by
  unfold execOp
  simp only [ho, hx, hy]
  simp [go_sem]
end Ri
theorem set3l (w : World) (b : Nat) (a0 a1 a2 v0 v1 v2 : Value) (h0 : w.cell? ⟨b, 0, none⟩ = some a0) (h1 : w.cell? ⟨b, 1, none⟩ = some a1) (h2 : w.cell? ⟨b, 2, none⟩ = some a2) :
    (((w.setCell ⟨b, 0, none⟩ v0).setCell ⟨b, 1, none⟩ v1).setCell ⟨b, 2, none⟩ v2).cell? ⟨b, 0, none⟩ = some v0 ∧
    (((w.setCell ⟨b, 0, none⟩ v0).setCell ⟨b, 1, none⟩ v1).setCell ⟨b, 2, none⟩ v2).cell? ⟨b, 1, none⟩ = some v1 ∧
    (((w.setCell ⟨b, 0, none⟩ v0).setCell ⟨b, 1, none⟩ v1).setCell ⟨b, 2, none⟩ v2).cell? ⟨b, 2, none⟩ = some v2 := by
  refine ⟨?_, ?_, ?_⟩
  · rw [World.cell?_setCell_other _ _ _ _ (by simp), World.cell?_setCell_other _ _ _ _ (by simp), World.cell?_setCell_same _ _ _ (by exact h0)]
  · rw [World.cell?_setCell_other _ _ _ _ (by simp), World.cell?_setCell_same _ _ _ (by rw [World.cell?_setCell_other _ _ _ _ (by simp)]; exact h1)]
  · rw [World.cell?_setCell_same _ _ _ (by rw [World.cell?_setCell_other _ _ _ _ (by simp), World.cell?_setCell_other _ _ _ _ (by simp)]; exact h2)]
/-- what after hands back -/
def AftP (w : World) (os : List OV) (i : Nat) (o p : OV) (e : Ending) (w' : World) : Prop :=
  Q w w' ∧ ∃ (X : Option Addr) (xn xc : Nat) (Y : Option Addr) (yn yc : Nat) (mo : Option Nat) (v : Value), e = .returned (.tuple #[.agg #[.slice X xn xc, .slice Y yn yc, .map mo], v, .bool (canB os i o p)]) ∧ (canB os i o p = true → ∃ L N, imgR (os.set i o) = some L ∧ w'.ownsRow w.heap.size 5 1 v N L)
theorem img_iff (os : List OV) : (imgR os).isSome = (putT (missL (tabF 0 0 os) os)).isEmpty := by
  unfold imgR
  cases h : imgF (tabF 0 0 os) 0 os [] with
  | none =>
    have h1 := imgF_none_iff.1 h
    have h2 : putT (missL (tabF 0 0 os) os) ≠ [] := fun h3 => h1 (putT_nil.1 h3)
    cases h4 : putT (missL (tabF 0 0 os) os) with
    | nil => exact absurd h4 h2
    | cons a l => rfl
  | some L =>
    have h1 : missL (tabF 0 0 os) os = [] := Classical.byContradiction fun h2 => by
      have := (imgF_none_iff (a := 0) (L := [])).2 h2
      rw [h] at this
      cases this
    rw [h1]
    rfl
set_option maxRecDepth 100000 in
set_option maxHeartbeats 2000000 in
theorem after_any (A : Option Addr) (n c : Nat) (os : List OV) (As : Option Addr) (cs mb : Nat) (i : Nat) (o p : OV) (w : World) (hO : ObsR w A n c os) (ho : ObR w o) (hi : i < n) (hn : n ≤ 8) (hp : os[i]? = some p) (hv : ∀ p ∈ os, p.valid = 0) (hov : o.valid = 0) :
    Calls Try.prog 49 #[.agg #[.slice A n c, .slice As (n + 1) cs, .map (some mb), .int .i64 (i : Nat), o.1.val, o.2.1.val, o.2.2.val]] w (AftP w os i o p) := by
  have HOS := hide hO
  have HOB := hide ho
  have hl := hO.sl.len
  have hof : o.1.n ≤ 512 := by have := (Fit.of ho hov).b; have := ho.b.len; omega
  have hpv := hv p (List.mem_of_getElem? hp)
  have hpo := hO.all p (List.mem_of_getElem? hp)
  have hpf : p.1.n ≤ 512 := by have := (Fit.of hpo hpv).b; have := hpo.b.len; omega
  have HVS := hide (valid_set (i := i) hv hov)
  have HPP := hide hp
  have HFS := hide (flat_set (o := o) hp)
  have HG := hide (show (os.flatMap encO)[i * 3]? = some p.1.val ∧ (os.flatMap encO)[i * 3 + 1]? = some p.2.1.val ∧ (os.flatMap encO)[i * 3 + 2]? = some p.2.2.val from ⟨flatMap_get (enc := encO) (k := 3) (fun _ => rfl) os i 0 p hp (by decide), flatMap_get (enc := encO) (k := 3) (fun _ => rfl) os i 1 p hp (by decide), flatMap_get (enc := encO) (k := 3) (fun _ => rfl) os i 2 p hp (by decide)⟩)
  obtain ⟨os2, hos2⟩ : ∃ os2, os.set i o = os2 := ⟨_, rfl⟩
  have HOW := hide (fun (W : World) (B : Nat) (V : Option Addr) (cv : Nat) (h : Q w W) (hr : W.ownsRow B 34 3 (.slice V n cv) n (os2.flatMap encO)) => obs_with (hos2 ▸ hr) (hO.up h) (ho.up h))
  have hcb : canB os i o p = (room o.1.n == room p.1.n && (!dupB [] (namesF os2) && (imgR os2).isSome)) := by rw [img_iff os2, ← hos2]; rfl
  have HCB := hide hcb
  unfold AftP
  rw [hos2] at HOW HVS HFS ⊢
  obtain ⟨⟨A0, n0, c0, bs⟩, ⟨A1, n1, c1, ss⟩, ⟨A2, n2, c2, ws⟩⟩ := o
  obtain ⟨⟨B0, m0, d0, bt⟩, ⟨B1, m1, d1, st⟩, ⟨B2, m2, d2, wt⟩⟩ := p
  obtain ⟨cb, hcbv⟩ : ∃ cb, canB os i (⟨A0, n0, c0, bs⟩, ⟨A1, n1, c1, ss⟩, ⟨A2, n2, c2, ws⟩) (⟨B0, m0, d0, bt⟩, ⟨B1, m1, d1, st⟩, ⟨B2, m2, d2, wt⟩) = cb := ⟨_, rfl⟩
  rw [hcbv] at HCB ⊢
  dsimp only at HCB hof hpf
  obtain ⟨w2, hw2⟩ : ∃ w2, (w.alloc (.cells #[.slice A n c, .slice As (n + 1) cs, .map (some mb), .int .i64 (i : Nat), .slice A0 n0 c0, .slice A1 n1 c1, .slice A2 n2 c2] 83)).alloc (.cells #[.slice none 0 0, .slice none 0 0, .map none] 78) = w2 := ⟨_, rfl⟩
  have hq2 : Q w w2 := by rw [← hw2]; exact ((Q.refl w).alloc _).alloc _
  have hs2 : w.heap.size + 1 < w2.heap.size := by rw [← hw2]; simp
  have hs1 : w.heap.size < w2.heap.size := by omega
  have k0 : w2.cell? ⟨w.heap.size, 0, none⟩ = some (.slice A n c) := by rw [← hw2]; simp
  have k1 : w2.cell? ⟨w.heap.size, 1, none⟩ = some (.slice As (n + 1) cs) := by rw [← hw2]; simp
  have k2 : w2.cell? ⟨w.heap.size, 2, none⟩ = some (.map (some mb)) := by rw [← hw2]; simp
  have k3 : w2.cell? ⟨w.heap.size, 3, none⟩ = some (.int .i64 (i : Nat)) := by rw [← hw2]; simp
  have k4 : w2.cell? ⟨w.heap.size, 4, none⟩ = some (.slice A0 n0 c0) := by rw [← hw2]; simp
  have k5 : w2.cell? ⟨w.heap.size, 5, none⟩ = some (.slice A1 n1 c1) := by rw [← hw2]; simp
  have k6 : w2.cell? ⟨w.heap.size, 6, none⟩ = some (.slice A2 n2 c2) := by rw [← hw2]; simp
  have Z0 := hide (show w2.cell? ⟨w.heap.size + 1, 0, none⟩ = some (.slice none 0 0) by rw [← hw2]; simp)
  have Z1 := hide (show w2.cell? ⟨w.heap.size + 1, 1, none⟩ = some (.slice none 0 0) by rw [← hw2]; simp)
  have Z2 := hide (show w2.cell? ⟨w.heap.size + 1, 2, none⟩ = some (.map none) by rw [← hw2]; simp)
  have Y0 := hide (show w2.frozen? ⟨w.heap.size + 1, 0, none⟩ = false by rw [← hw2]; simp)
  have Y1 := hide (show w2.frozen? ⟨w.heap.size + 1, 1, none⟩ = false by rw [← hw2]; simp)
  have Y2 := hide (show w2.frozen? ⟨w.heap.size + 1, 2, none⟩ = false by rw [← hw2]; simp)
  have hii : (i : Int) < (n : Int) := by omega
  have hni : (n : Int) ≤ 8 := by omega
  have HII := hide hi
  have HNN := hide hn
  have HCL := hide (CloneO_any A n c os w2 (hO.up hq2) hn)
  have HQ2 := hide hq2
  have K0 := hide k0
  have K1 := hide k1
  have K2 := hide k2
  have K3 := hide k3
  have K4 := hide k4
  have K5 := hide k5
  have K6 := hide k6
  clear hq2 k0 k1 k2 k3 k4 k5 k6
  have HW2 := hide hw2
  obtain ⟨ra, hra⟩ : ∃ ra, room n0 = ra := ⟨_, rfl⟩
  obtain ⟨rb, hrb⟩ : ∃ rb, room m0 = rb := ⟨_, rfl⟩
  have R1 := hide (fun W => room_any A0 n0 c0 (.slice A1 n1 c1) (.slice A2 n2 c2) W (by omega))
  have R2 := hide (fun W => room_any B0 m0 d0 (.slice B1 m1 d1) (.slice B2 m2 d2) W (by omega))
  rw [hra] at R1 HCB
  rw [hrb] at R2 HCB
  unfold SlV.val at HFS
  unfold SlV.val
  dsimp only at HFS HG ⊢
  clear hO ho hv hov hpv hpo hp hcb hcbv hos2 hw2 hra hrb hof hpf hl hn
  have k0 := K0.out
  have k1 := K1.out
  have k2 := K2.out
  have k3 := K3.out
  have k4 := K4.out
  have k5 := K5.out
  have k6 := K6.out
  go_enter Try.func49, Try.ntmps49
  go_wp2_with fail
  rw [HW2.out]
  clear k1 k2
  go_wp2_with fail
  refine HCL.out.mono ?_
  rintro e w3 ⟨v, rfl, hv3, hq3⟩
  have HV3 := hide hv3
  obtain ⟨g, cg, rfl, hgb, hgl, hgn, hgm, hcell, hfz⟩ := own_at hv3 (by have := HII.out; omega)
  have HQ3 := hide (HQ2.out.trans hq3)
  have HGB := hide hgb
  have y0 := hcell (i * 3) _ HG.out.1
  have y1 := hcell (i * 3 + 1) _ HG.out.2.1
  have y2 := hcell (i * 3 + 2) _ HG.out.2.2
  unfold SlV.val at y0 y1 y2
  dsimp only at y0 y1 y2
  have z0 := hfz (i * 3)
  have z1 := hfz (i * 3 + 1)
  have z2 := hfz (i * 3 + 2)
  have k0 := (hq3.facts.1 _ 0 hs1).trans K0.out
  have k3 := (hq3.facts.1 _ 3 hs1).trans K3.out
  have k4 := (hq3.facts.1 _ 4 hs1).trans K4.out
  have k5 := (hq3.facts.1 _ 5 hs1).trans K5.out
  have k6 := (hq3.facts.1 _ 6 hs1).trans K6.out
  obtain ⟨w6, hw6⟩ : ∃ w6, ((w3.setCell ⟨g, i * 3, none⟩ (.slice A0 n0 c0)).setCell ⟨g, i * 3 + 1, none⟩ (.slice A1 n1 c1)).setCell ⟨g, i * 3 + 2, none⟩ (.slice A2 n2 c2) = w6 := ⟨_, rfl⟩
  have hq6 : Q w2 w6 := by rw [← hw6]; exact ((hq3.set hgb _).set hgb _).set hgb _
  have hown : w6.ownsRow w2.heap.size 34 3 (.slice (some ⟨g, 0, none⟩) n cg) n (os2.flatMap encO) := by rw [← hw6, ← HFS.out]; exact own_set (own_set (own_set hv3 _ _) _ _) _ _
  have HLY := hide (lay_any (some ⟨g, 0, none⟩) n cg os2 w6 (HOW.out w6 _ _ _ (HQ2.out.trans hq6) hown) HNN.out HVS.out)
  have HOS2 := hide (HOW.out w6 _ _ _ (HQ2.out.trans hq6) hown)
  have HW6 := hide hw6
  have HQ6 := hide hq6
  clear hv3 hgl hcell hfz hq3 hw6 hq6 hown hgb
  go_wp2_with fail
  rw [HW6.out]
  clear y0 y1 y2 z0 z1 z2 k0 k3 k4 k5 k6
  refine HLY.out.mono ?_
  rintro e w7 ⟨hq7, hcase⟩
  have hq27 := HQ6.out.trans hq7
  have hs27 : w2.heap.size ≤ w7.heap.size := hq27.size
  rcases hcase with ⟨hdu, rfl⟩ | ⟨hdu, vs, mb2, rfl, hvs, hmp⟩
  · obtain ⟨w8, hw8⟩ : ∃ w8, w7.alloc (.cells #[.slice none 0 0, .slice none 0 0, .map none] 78) = w8 := ⟨_, rfl⟩
    have hq78 : Q w7 w8 := by rw [← hw8]; exact (Q.refl w7).alloc _
    have HCF := hide (show cb = false by rw [HCB.out, hdu]; simp)
    have HQ28 := hide (hq27.trans hq78)
    have HQ8 := hide (HQ2.out.trans (hq27.trans hq78))
    have HW8 := hide hw8
    clear hdu hq7 hq27 hw8 hq78
    go_upto_region 4 with fail
    rw [HW8.out]
    refine Ri.madeZ (C := fun W => Q w8 W) [] [0, 1, 2, 3, 4, 5, 6, 7, 8, 9, 10, 11, 12, 13, 14, 15] (fun w1 w3 X hq => X.trans hq) (Ri.phi [Ri.isV (.int .i64 (5)), Ri.isV (.bool true), Ri.isV (.bool true), Ri.isV (undef), Ri.isV (undef), Ri.isV (undef), Ri.isV (undef), Ri.isV (undef), Ri.isV (undef), Ri.isV (undef), Ri.isV (undef), Ri.isV (undef), Ri.isV (undef), Ri.isV (undef), Ri.isV (undef), Ri.isV (.bool true)]) (by kernel_rfl) (by kernel_rfl) (by kernel_rfl) ((Q.refl _).drew) (Ri.phi_mono ?_) (Ri.phi_fix ?_) ?_ ?_
    · exact ⟨Ri.mono_isV _, Ri.mono_isV _, Ri.mono_isV _, Ri.mono_isV _, Ri.mono_isV _, Ri.mono_isV _, Ri.mono_isV _, Ri.mono_isV _, Ri.mono_isV _, Ri.mono_isV _, Ri.mono_isV _, Ri.mono_isV _, Ri.mono_isV _, Ri.mono_isV _, Ri.mono_isV _, Ri.mono_isV _, trivial⟩
    · exact ⟨fun _ => Ri.fix_isV _, fun _ => Ri.fix_isV _, fun _ => Ri.fix_isV _, fun _ => Ri.fix_isV _, fun _ => Ri.fix_isV _, fun _ => Ri.fix_isV _, fun _ => Ri.fix_isV _, fun _ => Ri.fix_isV _, fun _ => Ri.fix_isV _, fun _ => Ri.fix_isV _, fun _ => Ri.fix_isV _, fun _ => Ri.fix_isV _, fun _ => Ri.fix_isV _, fun _ => Ri.fix_isV _, fun _ => Ri.fix_isV _, fun _ => Ri.fix_isV _, trivial⟩
    · refine Ri.All.cons ?_ (Ri.All.cons ?_ (Ri.All.cons ?_ (Ri.All.cons ?_ (Ri.All.cons ?_ (Ri.All.cons ?_ (Ri.All.cons ?_ (Ri.All.cons ?_ (Ri.All.cons ?_ (Ri.All.cons ?_ (Ri.All.cons ?_ (Ri.All.cons ?_ (Ri.All.cons ?_ (Ri.All.cons ?_ (Ri.All.cons ?_ (Ri.All.cons ?_ (Ri.All.nil))))))))))))))))
      · refine Ri.StepZ.q (by kernel_rfl) rfl fun f W hq hf A hA hB hO => ?_
        have e1 := (hB 7 (by kernel_rfl)).trans (show _ = .int .i64 (5) by simp [Act.eval])
        exact Ri.wp_value _ (Ri.run_mv rfl e1) rfl
      · refine Ri.StepZ.q (by kernel_rfl) rfl fun f W hq hf A hA hB hO => ?_
        have e1 := (hA 24 0 (by kernel_rfl) (by simp)).trans (show f 0 = _ from hf 0 (by kernel_rfl))
        exact Ri.wp_value _ ((Ri.run_neq rfl e1 rfl Try.underlying27).trans (by simp)) rfl
      · refine Ri.StepZ.q (by kernel_rfl) rfl fun f W hq hf A hA hB hO => ?_
        have e1 := (hA 25 1 (by kernel_rfl) (by simp)).trans (show f 1 = _ from hf 1 (by kernel_rfl))
        exact Ri.wp_value _ (Ri.run_mv rfl e1) rfl
      · refine Ri.StepZ.off rfl rfl (by simp) fun f W hq hf => ⟨hf 2 (by kernel_rfl), rfl⟩
      · refine Ri.StepZ.off rfl rfl (by simp) fun f W hq hf => ⟨hf 2 (by kernel_rfl), rfl⟩
      · refine Ri.StepZ.off rfl rfl (by simp) fun f W hq hf => ⟨hf 2 (by kernel_rfl), rfl⟩
      · refine Ri.StepZ.off rfl rfl (by simp) fun f W hq hf => ⟨hf 2 (by kernel_rfl), rfl⟩
      · refine Ri.StepZ.off rfl rfl (by simp) fun f W hq hf => ⟨hf 2 (by kernel_rfl), rfl⟩
      · refine Ri.StepZ.off rfl rfl (by simp) fun f W hq hf => ⟨hf 2 (by kernel_rfl), rfl⟩
      · refine Ri.StepZ.off rfl rfl (by simp) fun f W hq hf => ⟨hf 2 (by kernel_rfl), rfl⟩
      · refine Ri.StepZ.off rfl rfl (by simp) fun f W hq hf => ⟨hf 2 (by kernel_rfl), rfl⟩
      · refine Ri.StepZ.off rfl rfl (by simp) fun f W hq hf => ⟨hf 2 (by kernel_rfl), rfl⟩
      · refine Ri.StepZ.off rfl rfl (by simp) fun f W hq hf => ⟨hf 2 (by kernel_rfl), rfl⟩
      · refine Ri.StepZ.off rfl rfl (by simp) fun f W hq hf => ⟨hf 2 (by kernel_rfl), rfl⟩
      · refine Ri.StepZ.off rfl rfl (by simp) fun f W hq hf => ⟨hf 2 (by kernel_rfl), rfl⟩
      · refine Ri.StepZ.q (by kernel_rfl) rfl fun f W hq hf A hA hB hO => ?_
        have e1 := (hA 26 2 (by kernel_rfl) (by simp)).trans (show f 2 = _ from hf 2 (by kernel_rfl))
        exact Ri.wp_value _ (Ri.run_pick rfl e1 (by simp [Act.eval])) rfl
    · intro f W hq hf
      have e15 : f 15 = .bool true := hf 15 (by decide) (by kernel_rfl)
      simp only [Ri.acts, Act.put, List.setIfInBounds_toArray, List.set_cons_zero, List.set_cons_succ, Nat.zero_add, Nat.reduceAdd]
      rw [e15]
      have HXW := hide hq
      clear hf hq e15
      have z0 : W.cell? ⟨w.heap.size + 1, 0, none⟩ = some (.slice none 0 0) := ((HQ28.out.trans HXW.out).facts.1 _ 0 hs2).trans Z0.out
      have z1 : W.cell? ⟨w.heap.size + 1, 1, none⟩ = some (.slice none 0 0) := ((HQ28.out.trans HXW.out).facts.1 _ 1 hs2).trans Z1.out
      have z2 : W.cell? ⟨w.heap.size + 1, 2, none⟩ = some (.map none) := ((HQ28.out.trans HXW.out).facts.1 _ 2 hs2).trans Z2.out
      have y0z : W.frozen? ⟨w.heap.size + 1, 0, none⟩ = false := ((HQ28.out.trans HXW.out).facts.2.1 _ 0 hs2).trans Y0.out
      have y1z : W.frozen? ⟨w.heap.size + 1, 1, none⟩ = false := ((HQ28.out.trans HXW.out).facts.2.1 _ 1 hs2).trans Y1.out
      have y2z : W.frozen? ⟨w.heap.size + 1, 2, none⟩ = false := ((HQ28.out.trans HXW.out).facts.2.1 _ 2 hs2).trans Y2.out
      obtain ⟨s0, s1, s2⟩ := set3l W (w.heap.size + 1) _ _ _ (.slice none 0 0) (.slice none 0 0) (.map none) z0 z1 z2
      have S0 := hide s0
      have S1 := hide s1
      have S2 := hide s2
      clear s0 s1 s2
      go_wp2_with fail
      have s0 := S0.out
      have s1 := S1.out
      have s2 := S2.out
      refine bodyPost_ret (v := .tuple #[.agg #[.slice none 0 0, .slice none 0 0, .map none], .slice none 0 0, .bool false]) (by simp [results, Try.results49, go_sem, s0, s1, s2]) rfl ?_
      exact ⟨(((HQ8.out.trans HXW.out).set (Nat.le_succ _) _).set (Nat.le_succ _) _).set (Nat.le_succ _) _, _, _, _, _, _, _, _, _, by rw [HCF.out], fun h => by rw [HCF.out] at h; cases h⟩
  · obtain ⟨Vs, cvs, rfl, hcv1, hcv2, -, hrd⟩ := own_form hvs
    obtain ⟨w8, hw8⟩ : ∃ w8, w7.alloc (.cells #[.slice (some ⟨g, 0, none⟩) n cg, .slice Vs (n + 1) cvs, .map (some mb2)] 78) = w8 := ⟨_, rfl⟩
    have hq78 : Q w7 w8 := by rw [← hw8]; exact (Q.refl w7).alloc _
    have hb8 : w8.heap[w7.heap.size]? = some (.cells #[.slice (some ⟨g, 0, none⟩) n cg, .slice Vs (n + 1) cvs, .map (some mb2)] 78 (0, 0)) := by rw [← hw8]; exact heap_alloc_new w7 _
    have hs78 : w7.heap.size < w8.heap.size := by rw [← hw8]; simp
    have L0 := hide (show w8.cell? ⟨w7.heap.size, 0, none⟩ = some (.slice (some ⟨g, 0, none⟩) n cg) from cell_blkJ (j := 0) hb8 rfl)
    have L1 := hide (show w8.cell? ⟨w7.heap.size, 1, none⟩ = some (.slice Vs (n + 1) cvs) from cell_blkJ (j := 1) hb8 rfl)
    have L2 := hide (show w8.cell? ⟨w7.heap.size, 2, none⟩ = some (.map (some mb2)) from cell_blkJ (j := 2) hb8 rfl)
    have HQ28 := hide (hq27.trans hq78)
    have HQ8 := hide (HQ2.out.trans (hq27.trans hq78))
    have hs8 : w.heap.size < w8.heap.size := by omega
    have y0 := (HQ28.out.facts.1 _ 0 hs1).trans K0.out
    have y3 := (HQ28.out.facts.1 _ 3 hs1).trans K3.out
    have y4 := (HQ28.out.facts.1 _ 4 hs1).trans K4.out
    have y5 := (HQ28.out.facts.1 _ 5 hs1).trans K5.out
    have y6 := (HQ28.out.facts.1 _ 6 hs1).trans K6.out
    have HIM := hide (fun W (h : Q w8 W) => image_any (some ⟨g, 0, none⟩) n cg os2 Vs cvs mb2 W ((HOS2.out.up (hq7.trans hq78)).up h) HNN.out HVS.out ((hrd.up hq78).up h) hcv1 ((hmp.up hq78).up h))
    obtain ⟨b1, o1, ob, rfl, hbb, g1, x1, x2, x3, hob⟩ := (HOS.out.up HQ8.out).at_ i hi
    obtain rfl : ob = (⟨B0, m0, d0, bt⟩, ⟨B1, m1, d1, st⟩, ⟨B2, m2, d2, wt⟩) := by have := g1.symm.trans HPP.out; injection this
    dsimp only at x1 x2 x3
    have HDU := hide hdu
    have HW8 := hide hw8
    have HIR := hide (show imgF (tabF 0 0 os2) 0 os2 [] = imgR os2 from rfl)
    clear hdu hq7 hq27 hw8 hq78 hvs hmp hrd hb8 hob g1 hcv2
    by_cases hr : ra = rb
    · subst hr
      have t1 : ((ra : Int) != (ra : Int)) = false := by simp
      go_upto_region 4 with fail
      rw [HW8.out]
      refine Ri.madeZ (C := fun W => Q w8 W) [] [0, 1, 2, 3, 4, 5, 6, 7, 8, 9, 10, 11, 12, 13, 14, 15] (fun w1 w3 X hq => X.trans hq) (Ri.phi [Ri.isV (.int .i64 (0)), Ri.isV (.bool false), Ri.isV (.bool false), Ri.isV (.pointer (some ⟨w.heap.size, 4, none⟩)), Ri.isV (.agg #[.slice A0 n0 c0, .slice A1 n1 c1, .slice A2 n2 c2]), Ri.isV (.int .i64 (ra : Nat)), Ri.isV (.pointer (some ⟨w.heap.size, 0, none⟩)), Ri.isV (.pointer (some ⟨w.heap.size, 0, none⟩)), Ri.isV (.slice (some ⟨b1, o1, none⟩) n c), Ri.isV (.pointer (some ⟨w.heap.size, 3, none⟩)), Ri.isV (.int .i64 (i : Int)), Ri.isV (.pointer (some ⟨b1, o1 + i * 3, none⟩)), Ri.isV (.agg #[.slice B0 m0 d0, .slice B1 m1 d1, .slice B2 m2 d2]), Ri.isV (.int .i64 (ra : Nat)), Ri.isV (.bool false), Ri.isV (.bool false)]) (by kernel_rfl) (by kernel_rfl) (by kernel_rfl) ((Q.refl _).drew) (Ri.phi_mono ?_) (Ri.phi_fix ?_) ?_ ?_
      · exact ⟨Ri.mono_isV _, Ri.mono_isV _, Ri.mono_isV _, Ri.mono_isV _, Ri.mono_isV _, Ri.mono_isV _, Ri.mono_isV _, Ri.mono_isV _, Ri.mono_isV _, Ri.mono_isV _, Ri.mono_isV _, Ri.mono_isV _, Ri.mono_isV _, Ri.mono_isV _, Ri.mono_isV _, Ri.mono_isV _, trivial⟩
      · exact ⟨fun _ => Ri.fix_isV _, fun _ => Ri.fix_isV _, fun _ => Ri.fix_isV _, fun _ => Ri.fix_isV _, fun _ => Ri.fix_isV _, fun _ => Ri.fix_isV _, fun _ => Ri.fix_isV _, fun _ => Ri.fix_isV _, fun _ => Ri.fix_isV _, fun _ => Ri.fix_isV _, fun _ => Ri.fix_isV _, fun _ => Ri.fix_isV _, fun _ => Ri.fix_isV _, fun _ => Ri.fix_isV _, fun _ => Ri.fix_isV _, fun _ => Ri.fix_isV _, trivial⟩
      · refine Ri.All.cons ?_ (Ri.All.cons ?_ (Ri.All.cons ?_ (Ri.All.cons ?_ (Ri.All.cons ?_ (Ri.All.cons ?_ (Ri.All.cons ?_ (Ri.All.cons ?_ (Ri.All.cons ?_ (Ri.All.cons ?_ (Ri.All.cons ?_ (Ri.All.cons ?_ (Ri.All.cons ?_ (Ri.All.cons ?_ (Ri.All.cons ?_ (Ri.All.cons ?_ (Ri.All.nil))))))))))))))))
        · refine Ri.StepZ.q (by kernel_rfl) rfl fun f W hq hf A hA hB hO => ?_
          have e1 := (hB 7 (by kernel_rfl)).trans (show _ = .int .i64 (0) by simp [Act.eval])
          exact Ri.wp_value _ (Ri.run_mv rfl e1) rfl
        · refine Ri.StepZ.q (by kernel_rfl) rfl fun f W hq hf A hA hB hO => ?_
          have e1 := (hA 24 0 (by kernel_rfl) (by simp)).trans (show f 0 = _ from hf 0 (by kernel_rfl))
          exact Ri.wp_value _ ((Ri.run_neq rfl e1 rfl Try.underlying27).trans (by simp)) rfl
        · refine Ri.StepZ.q (by kernel_rfl) rfl fun f W hq hf A hA hB hO => ?_
          have e1 := (hA 25 1 (by kernel_rfl) (by simp)).trans (show f 1 = _ from hf 1 (by kernel_rfl))
          exact Ri.wp_value _ (Ri.run_mv rfl e1) rfl
        · refine Ri.StepZ.gq (by kernel_rfl) rfl rfl (by simp) fun f W hq hf A hA hB hO => ⟨hf 2 (by kernel_rfl), ?_⟩
          have e1 := (hB 1 (by kernel_rfl)).trans (show _ = .pointer (some ⟨w.heap.size, 0, none⟩) by simp [Act.eval])
          exact Ri.wp_value _ (Ri.run_fld (f := _) rfl e1 Try.underlying83 rfl (sz := 2) (by kernel_rfl)) rfl
        · refine Ri.StepZ.gq (by kernel_rfl) rfl rfl (by simp) fun f W hq hf A hA hB hO => ⟨hf 2 (by kernel_rfl), ?_⟩
          have e1 := (hA 27 3 (by kernel_rfl) (by simp)).trans (show f 3 = _ from hf 3 (by kernel_rfl))
          have h0 := (hq.facts.1 _ 4 hs8).trans y4
          have h1 := (hq.facts.1 _ 5 hs8).trans y5
          have h2 := (hq.facts.1 _ 6 hs8).trans y6
          exact Ri.wp_value _ (Ri.run_ldagg (cs := [.slice A0 n0 c0, .slice A1 n1 c1, .slice A2 n2 c2]) rfl e1 (c3 h0 h1 h2) Try.underlying34 rfl (by kernel_rfl)) rfl
        · refine Ri.StepZ.gq (by kernel_rfl) rfl rfl (by simp) fun f W hq hf A hA hB hO => ⟨hf 2 (by kernel_rfl), ?_⟩
          have e1 := (hA 28 4 (by kernel_rfl) (by simp)).trans (show f 4 = _ from hf 4 (by kernel_rfl))
          refine Ri.wp_call #[.agg #[.slice A0 n0 c0, .slice A1 n1 c1, .slice A2 n2 c2]] rfl (by simp [e1]) Try.func85 (by kernel_rfl) (by kernel_rfl) ((R1.out W).mono ?_)
          rintro e w9 ⟨rfl, h1⟩
          exact ⟨_, rfl, h1, rfl⟩
        · refine Ri.StepZ.gq (by kernel_rfl) rfl rfl (by simp) fun f W hq hf A hA hB hO => ⟨hf 2 (by kernel_rfl), ?_⟩
          have e1 := (hB 1 (by kernel_rfl)).trans (show _ = .pointer (some ⟨w.heap.size, 0, none⟩) by simp [Act.eval])
          exact Ri.wp_value _ (Ri.run_fld (f := _) rfl e1 Try.underlying83 rfl (sz := 2) (by kernel_rfl)) rfl
        · refine Ri.StepZ.gq (by kernel_rfl) rfl rfl (by simp) fun f W hq hf A hA hB hO => ⟨hf 2 (by kernel_rfl), ?_⟩
          have e1 := (hA 30 6 (by kernel_rfl) (by simp)).trans (show f 6 = _ from hf 6 (by kernel_rfl))
          exact Ri.wp_value _ (Ri.run_fld (f := _) rfl e1 Try.underlying78 rfl (sz := 0) (by kernel_rfl)) rfl
        · refine Ri.StepZ.gq (by kernel_rfl) rfl rfl (by simp) fun f W hq hf A hA hB hO => ⟨hf 2 (by kernel_rfl), ?_⟩
          have e1 := (hA 31 7 (by kernel_rfl) (by simp)).trans (show f 7 = _ from hf 7 (by kernel_rfl))
          exact Ri.wp_value _ (Ri.run_ld1 rfl e1 Try.underlying22 rfl ((hq.facts.1 _ 0 hs8).trans y0)) rfl
        · refine Ri.StepZ.gq (by kernel_rfl) rfl rfl (by simp) fun f W hq hf A hA hB hO => ⟨hf 2 (by kernel_rfl), ?_⟩
          have e1 := (hB 1 (by kernel_rfl)).trans (show _ = .pointer (some ⟨w.heap.size, 0, none⟩) by simp [Act.eval])
          exact Ri.wp_value _ (Ri.run_fld (f := _) rfl e1 Try.underlying83 rfl (sz := 0) (by kernel_rfl)) rfl
        · refine Ri.StepZ.gq (by kernel_rfl) rfl rfl (by simp) fun f W hq hf A hA hB hO => ⟨hf 2 (by kernel_rfl), ?_⟩
          have e1 := (hA 33 9 (by kernel_rfl) (by simp)).trans (show f 9 = _ from hf 9 (by kernel_rfl))
          exact Ri.wp_value _ (Ri.run_ld1 rfl e1 Try.underlying3 rfl ((hq.facts.1 _ 3 hs8).trans y3)) rfl
        · refine Ri.StepZ.gq (by kernel_rfl) rfl rfl (by simp) fun f W hq hf A hA hB hO => ⟨hf 2 (by kernel_rfl), ?_⟩
          have e1 := (hA 32 8 (by kernel_rfl) (by simp)).trans (show f 8 = _ from hf 8 (by kernel_rfl))
          have e2 := (hA 34 10 (by kernel_rfl) (by simp)).trans (show f 10 = _ from hf 10 (by kernel_rfl))
          exact Ri.wp_value _ (Ri.run_idx rfl e1 e2 Try.underlying22 (sz := 3) (by kernel_rfl) hi) rfl
        · refine Ri.StepZ.gq (by kernel_rfl) rfl rfl (by simp) fun f W hq hf A hA hB hO => ⟨hf 2 (by kernel_rfl), ?_⟩
          have e1 := (hA 35 11 (by kernel_rfl) (by simp)).trans (show f 11 = _ from hf 11 (by kernel_rfl))
          have h0 := (hq.facts.1 _ _ hbb).trans x1
          have h1 := (hq.facts.1 _ _ hbb).trans x2
          have h2 := (hq.facts.1 _ _ hbb).trans x3
          exact Ri.wp_value _ (Ri.run_ldagg (cs := [.slice B0 m0 d0, .slice B1 m1 d1, .slice B2 m2 d2]) rfl e1 (c3 h0 h1 h2) Try.underlying34 rfl (by kernel_rfl)) rfl
        · refine Ri.StepZ.gq (by kernel_rfl) rfl rfl (by simp) fun f W hq hf A hA hB hO => ⟨hf 2 (by kernel_rfl), ?_⟩
          have e1 := (hA 36 12 (by kernel_rfl) (by simp)).trans (show f 12 = _ from hf 12 (by kernel_rfl))
          refine Ri.wp_call #[.agg #[.slice B0 m0 d0, .slice B1 m1 d1, .slice B2 m2 d2]] rfl (by simp [e1]) Try.func85 (by kernel_rfl) (by kernel_rfl) ((R2.out W).mono ?_)
          rintro e w9 ⟨rfl, h1⟩
          exact ⟨_, rfl, h1, rfl⟩
        · refine Ri.StepZ.gq (by kernel_rfl) rfl rfl (by simp) fun f W hq hf A hA hB hO => ⟨hf 2 (by kernel_rfl), ?_⟩
          have e1 := (hA 29 5 (by kernel_rfl) (by simp)).trans (show f 5 = _ from hf 5 (by kernel_rfl))
          have e2 := (hA 37 13 (by kernel_rfl) (by simp)).trans (show f 13 = _ from hf 13 (by kernel_rfl))
          exact Ri.wp_value _ (t1 ▸ Ri.run_neq rfl e1 e2 Try.underlying3) rfl
        · refine Ri.StepZ.q (by kernel_rfl) rfl fun f W hq hf A hA hB hO => ?_
          have e1 := (hA 26 2 (by kernel_rfl) (by simp)).trans (show f 2 = _ from hf 2 (by kernel_rfl))
          have e2 := (hA 38 14 (by kernel_rfl) (by simp)).trans (show f 14 = _ from hf 14 (by kernel_rfl))
          exact Ri.wp_value _ (Ri.run_pick rfl e1 (by simpa using e2)) rfl
      · intro f W hq hf
        have e15 : f 15 = .bool false := hf 15 (by decide) (by kernel_rfl)
        simp only [Ri.acts, Act.put, List.setIfInBounds_toArray, List.set_cons_zero, List.set_cons_succ, Nat.zero_add, Nat.reduceAdd]
        rw [e15]
        have HXW := hide hq
        clear hf hq e15
        have HS8 := hide hs8
        have l0 := (HXW.out.facts.1 _ 0 hs78).trans L0.out
        have l1 := (HXW.out.facts.1 _ 1 hs78).trans L1.out
        have l2 := (HXW.out.facts.1 _ 2 hs78).trans L2.out
        have HIM2 := hide (HIM.out W HXW.out)
        clear y0 y3 y4 y5 y6 x1 x2 x3 hbb t1
        go_wp2_with fail
        refine HIM2.out.mono ?_
        rw [HIR.out]
        rintro e w9 ⟨hq9, hcase⟩
        have z0 : w9.cell? ⟨w.heap.size + 1, 0, none⟩ = some (.slice none 0 0) := ((HQ28.out.trans (HXW.out.trans hq9)).facts.1 _ 0 hs2).trans Z0.out
        have z1 : w9.cell? ⟨w.heap.size + 1, 1, none⟩ = some (.slice none 0 0) := ((HQ28.out.trans (HXW.out.trans hq9)).facts.1 _ 1 hs2).trans Z1.out
        have z2 : w9.cell? ⟨w.heap.size + 1, 2, none⟩ = some (.map none) := ((HQ28.out.trans (HXW.out.trans hq9)).facts.1 _ 2 hs2).trans Z2.out
        have y0z : w9.frozen? ⟨w.heap.size + 1, 0, none⟩ = false := ((HQ28.out.trans (HXW.out.trans hq9)).facts.2.1 _ 0 hs2).trans Y0.out
        have y1z : w9.frozen? ⟨w.heap.size + 1, 1, none⟩ = false := ((HQ28.out.trans (HXW.out.trans hq9)).facts.2.1 _ 1 hs2).trans Y1.out
        have y2z : w9.frozen? ⟨w.heap.size + 1, 2, none⟩ = false := ((HQ28.out.trans (HXW.out.trans hq9)).facts.2.1 _ 2 hs2).trans Y2.out
        have l0 := ((HXW.out.trans hq9).facts.1 _ 0 hs78).trans L0.out
        have l1 := ((HXW.out.trans hq9).facts.1 _ 1 hs78).trans L1.out
        have l2 := ((HXW.out.trans hq9).facts.1 _ 2 hs78).trans L2.out
        have HQ9 := hide (HQ8.out.trans (HXW.out.trans hq9))
        have HSW := hide (show w.heap.size + 1 < W.heap.size by have := HQ28.out.size; have := HXW.out.size; omega)
        clear hq9
        rcases hcase with ⟨hnn, rfl⟩ | ⟨L, v, N, hsm, rfl, hown⟩
        · have HCF := hide (show cb = false by rw [HCB.out, hnn]; simp)
          clear hnn
          obtain ⟨s0, s1, s2⟩ := set3l w9 (w.heap.size + 1) _ _ _ (.slice (some ⟨g, 0, none⟩) n cg) (.slice Vs (n + 1) cvs) (.map (some mb2)) z0 z1 z2
          have S0 := hide s0
          have S1 := hide s1
          have S2 := hide s2
          clear s0 s1 s2
          go_wp2_with fail
          have s0 := S0.out
          have s1 := S1.out
          have s2 := S2.out
          refine bodyPost_ret (v := .tuple #[.agg #[.slice (some ⟨g, 0, none⟩) n cg, .slice Vs (n + 1) cvs, .map (some mb2)], .slice none 0 0, .bool false]) (by simp [results, Try.results49, go_sem, s0, s1, s2]) rfl ?_
          exact ⟨(((HQ9.out).set (Nat.le_succ _) _).set (Nat.le_succ _) _).set (Nat.le_succ _) _, _, _, _, _, _, _, _, _, by rw [HCF.out], fun h => by rw [HCF.out] at h; cases h⟩
        · have HCT := hide (show cb = true by rw [HCB.out, hsm, HDU.out]; simp)
          have HSM := hide hsm
          have HOWN := hide hown
          clear hsm hown
          obtain ⟨s0, s1, s2⟩ := set3l w9 (w.heap.size + 1) _ _ _ (.slice (some ⟨g, 0, none⟩) n cg) (.slice Vs (n + 1) cvs) (.map (some mb2)) z0 z1 z2
          have S0 := hide s0
          have S1 := hide s1
          have S2 := hide s2
          clear s0 s1 s2
          go_wp2_with fail
          have s0 := S0.out
          have s1 := S1.out
          have s2 := S2.out
          refine bodyPost_ret (v := .tuple #[.agg #[.slice (some ⟨g, 0, none⟩) n cg, .slice Vs (n + 1) cvs, .map (some mb2)], v, .bool true]) (by simp [results, Try.results49, go_sem, s0, s1, s2]) rfl ?_
          exact ⟨(((HQ9.out).set (Nat.le_succ _) _).set (Nat.le_succ _) _).set (Nat.le_succ _) _, _, _, _, _, _, _, _, _, by rw [HCT.out], fun _ => ⟨L, N, HSM.out, own_base2 (ownsRow_setCell_below (ownsRow_setCell_below (ownsRow_setCell_below HOWN.out HSW.out _) HSW.out _) HSW.out _) (by have := HSW.out; omega)⟩⟩
    · have t1 : ((ra : Int) != (rb : Int)) = true := by simp; omega
      have HCF := hide (show cb = false by rw [HCB.out, show (ra == rb) = false by simp [hr]]; rfl)
      go_upto_region 4 with fail
      rw [HW8.out]
      refine Ri.madeZ (C := fun W => Q w8 W) [] [0, 1, 2, 3, 4, 5, 6, 7, 8, 9, 10, 11, 12, 13, 14, 15] (fun w1 w3 X hq => X.trans hq) (Ri.phi [Ri.isV (.int .i64 (0)), Ri.isV (.bool false), Ri.isV (.bool false), Ri.isV (.pointer (some ⟨w.heap.size, 4, none⟩)), Ri.isV (.agg #[.slice A0 n0 c0, .slice A1 n1 c1, .slice A2 n2 c2]), Ri.isV (.int .i64 (ra : Nat)), Ri.isV (.pointer (some ⟨w.heap.size, 0, none⟩)), Ri.isV (.pointer (some ⟨w.heap.size, 0, none⟩)), Ri.isV (.slice (some ⟨b1, o1, none⟩) n c), Ri.isV (.pointer (some ⟨w.heap.size, 3, none⟩)), Ri.isV (.int .i64 (i : Int)), Ri.isV (.pointer (some ⟨b1, o1 + i * 3, none⟩)), Ri.isV (.agg #[.slice B0 m0 d0, .slice B1 m1 d1, .slice B2 m2 d2]), Ri.isV (.int .i64 (rb : Nat)), Ri.isV (.bool true), Ri.isV (.bool true)]) (by kernel_rfl) (by kernel_rfl) (by kernel_rfl) ((Q.refl _).drew) (Ri.phi_mono ?_) (Ri.phi_fix ?_) ?_ ?_
      · exact ⟨Ri.mono_isV _, Ri.mono_isV _, Ri.mono_isV _, Ri.mono_isV _, Ri.mono_isV _, Ri.mono_isV _, Ri.mono_isV _, Ri.mono_isV _, Ri.mono_isV _, Ri.mono_isV _, Ri.mono_isV _, Ri.mono_isV _, Ri.mono_isV _, Ri.mono_isV _, Ri.mono_isV _, Ri.mono_isV _, trivial⟩
      · exact ⟨fun _ => Ri.fix_isV _, fun _ => Ri.fix_isV _, fun _ => Ri.fix_isV _, fun _ => Ri.fix_isV _, fun _ => Ri.fix_isV _, fun _ => Ri.fix_isV _, fun _ => Ri.fix_isV _, fun _ => Ri.fix_isV _, fun _ => Ri.fix_isV _, fun _ => Ri.fix_isV _, fun _ => Ri.fix_isV _, fun _ => Ri.fix_isV _, fun _ => Ri.fix_isV _, fun _ => Ri.fix_isV _, fun _ => Ri.fix_isV _, fun _ => Ri.fix_isV _, trivial⟩
      · refine Ri.All.cons ?_ (Ri.All.cons ?_ (Ri.All.cons ?_ (Ri.All.cons ?_ (Ri.All.cons ?_ (Ri.All.cons ?_ (Ri.All.cons ?_ (Ri.All.cons ?_ (Ri.All.cons ?_ (Ri.All.cons ?_ (Ri.All.cons ?_ (Ri.All.cons ?_ (Ri.All.cons ?_ (Ri.All.cons ?_ (Ri.All.cons ?_ (Ri.All.cons ?_ (Ri.All.nil))))))))))))))))
        · refine Ri.StepZ.q (by kernel_rfl) rfl fun f W hq hf A hA hB hO => ?_
          have e1 := (hB 7 (by kernel_rfl)).trans (show _ = .int .i64 (0) by simp [Act.eval])
          exact Ri.wp_value _ (Ri.run_mv rfl e1) rfl
        · refine Ri.StepZ.q (by kernel_rfl) rfl fun f W hq hf A hA hB hO => ?_
          have e1 := (hA 24 0 (by kernel_rfl) (by simp)).trans (show f 0 = _ from hf 0 (by kernel_rfl))
          exact Ri.wp_value _ ((Ri.run_neq rfl e1 rfl Try.underlying27).trans (by simp)) rfl
        · refine Ri.StepZ.q (by kernel_rfl) rfl fun f W hq hf A hA hB hO => ?_
          have e1 := (hA 25 1 (by kernel_rfl) (by simp)).trans (show f 1 = _ from hf 1 (by kernel_rfl))
          exact Ri.wp_value _ (Ri.run_mv rfl e1) rfl
        · refine Ri.StepZ.gq (by kernel_rfl) rfl rfl (by simp) fun f W hq hf A hA hB hO => ⟨hf 2 (by kernel_rfl), ?_⟩
          have e1 := (hB 1 (by kernel_rfl)).trans (show _ = .pointer (some ⟨w.heap.size, 0, none⟩) by simp [Act.eval])
          exact Ri.wp_value _ (Ri.run_fld (f := _) rfl e1 Try.underlying83 rfl (sz := 2) (by kernel_rfl)) rfl
        · refine Ri.StepZ.gq (by kernel_rfl) rfl rfl (by simp) fun f W hq hf A hA hB hO => ⟨hf 2 (by kernel_rfl), ?_⟩
          have e1 := (hA 27 3 (by kernel_rfl) (by simp)).trans (show f 3 = _ from hf 3 (by kernel_rfl))
          have h0 := (hq.facts.1 _ 4 hs8).trans y4
          have h1 := (hq.facts.1 _ 5 hs8).trans y5
          have h2 := (hq.facts.1 _ 6 hs8).trans y6
          exact Ri.wp_value _ (Ri.run_ldagg (cs := [.slice A0 n0 c0, .slice A1 n1 c1, .slice A2 n2 c2]) rfl e1 (c3 h0 h1 h2) Try.underlying34 rfl (by kernel_rfl)) rfl
        · refine Ri.StepZ.gq (by kernel_rfl) rfl rfl (by simp) fun f W hq hf A hA hB hO => ⟨hf 2 (by kernel_rfl), ?_⟩
          have e1 := (hA 28 4 (by kernel_rfl) (by simp)).trans (show f 4 = _ from hf 4 (by kernel_rfl))
          refine Ri.wp_call #[.agg #[.slice A0 n0 c0, .slice A1 n1 c1, .slice A2 n2 c2]] rfl (by simp [e1]) Try.func85 (by kernel_rfl) (by kernel_rfl) ((R1.out W).mono ?_)
          rintro e w9 ⟨rfl, h1⟩
          exact ⟨_, rfl, h1, rfl⟩
        · refine Ri.StepZ.gq (by kernel_rfl) rfl rfl (by simp) fun f W hq hf A hA hB hO => ⟨hf 2 (by kernel_rfl), ?_⟩
          have e1 := (hB 1 (by kernel_rfl)).trans (show _ = .pointer (some ⟨w.heap.size, 0, none⟩) by simp [Act.eval])
          exact Ri.wp_value _ (Ri.run_fld (f := _) rfl e1 Try.underlying83 rfl (sz := 2) (by kernel_rfl)) rfl
        · refine Ri.StepZ.gq (by kernel_rfl) rfl rfl (by simp) fun f W hq hf A hA hB hO => ⟨hf 2 (by kernel_rfl), ?_⟩
          have e1 := (hA 30 6 (by kernel_rfl) (by simp)).trans (show f 6 = _ from hf 6 (by kernel_rfl))
          exact Ri.wp_value _ (Ri.run_fld (f := _) rfl e1 Try.underlying78 rfl (sz := 0) (by kernel_rfl)) rfl
        · refine Ri.StepZ.gq (by kernel_rfl) rfl rfl (by simp) fun f W hq hf A hA hB hO => ⟨hf 2 (by kernel_rfl), ?_⟩
          have e1 := (hA 31 7 (by kernel_rfl) (by simp)).trans (show f 7 = _ from hf 7 (by kernel_rfl))
          exact Ri.wp_value _ (Ri.run_ld1 rfl e1 Try.underlying22 rfl ((hq.facts.1 _ 0 hs8).trans y0)) rfl
        · refine Ri.StepZ.gq (by kernel_rfl) rfl rfl (by simp) fun f W hq hf A hA hB hO => ⟨hf 2 (by kernel_rfl), ?_⟩
          have e1 := (hB 1 (by kernel_rfl)).trans (show _ = .pointer (some ⟨w.heap.size, 0, none⟩) by simp [Act.eval])
          exact Ri.wp_value _ (Ri.run_fld (f := _) rfl e1 Try.underlying83 rfl (sz := 0) (by kernel_rfl)) rfl
        · refine Ri.StepZ.gq (by kernel_rfl) rfl rfl (by simp) fun f W hq hf A hA hB hO => ⟨hf 2 (by kernel_rfl), ?_⟩
          have e1 := (hA 33 9 (by kernel_rfl) (by simp)).trans (show f 9 = _ from hf 9 (by kernel_rfl))
          exact Ri.wp_value _ (Ri.run_ld1 rfl e1 Try.underlying3 rfl ((hq.facts.1 _ 3 hs8).trans y3)) rfl
        · refine Ri.StepZ.gq (by kernel_rfl) rfl rfl (by simp) fun f W hq hf A hA hB hO => ⟨hf 2 (by kernel_rfl), ?_⟩
          have e1 := (hA 32 8 (by kernel_rfl) (by simp)).trans (show f 8 = _ from hf 8 (by kernel_rfl))
          have e2 := (hA 34 10 (by kernel_rfl) (by simp)).trans (show f 10 = _ from hf 10 (by kernel_rfl))
          exact Ri.wp_value _ (Ri.run_idx rfl e1 e2 Try.underlying22 (sz := 3) (by kernel_rfl) hi) rfl
        · refine Ri.StepZ.gq (by kernel_rfl) rfl rfl (by simp) fun f W hq hf A hA hB hO => ⟨hf 2 (by kernel_rfl), ?_⟩
          have e1 := (hA 35 11 (by kernel_rfl) (by simp)).trans (show f 11 = _ from hf 11 (by kernel_rfl))
          have h0 := (hq.facts.1 _ _ hbb).trans x1
          have h1 := (hq.facts.1 _ _ hbb).trans x2
          have h2 := (hq.facts.1 _ _ hbb).trans x3
          exact Ri.wp_value _ (Ri.run_ldagg (cs := [.slice B0 m0 d0, .slice B1 m1 d1, .slice B2 m2 d2]) rfl e1 (c3 h0 h1 h2) Try.underlying34 rfl (by kernel_rfl)) rfl
        · refine Ri.StepZ.gq (by kernel_rfl) rfl rfl (by simp) fun f W hq hf A hA hB hO => ⟨hf 2 (by kernel_rfl), ?_⟩
          have e1 := (hA 36 12 (by kernel_rfl) (by simp)).trans (show f 12 = _ from hf 12 (by kernel_rfl))
          refine Ri.wp_call #[.agg #[.slice B0 m0 d0, .slice B1 m1 d1, .slice B2 m2 d2]] rfl (by simp [e1]) Try.func85 (by kernel_rfl) (by kernel_rfl) ((R2.out W).mono ?_)
          rintro e w9 ⟨rfl, h1⟩
          exact ⟨_, rfl, h1, rfl⟩
        · refine Ri.StepZ.gq (by kernel_rfl) rfl rfl (by simp) fun f W hq hf A hA hB hO => ⟨hf 2 (by kernel_rfl), ?_⟩
          have e1 := (hA 29 5 (by kernel_rfl) (by simp)).trans (show f 5 = _ from hf 5 (by kernel_rfl))
          have e2 := (hA 37 13 (by kernel_rfl) (by simp)).trans (show f 13 = _ from hf 13 (by kernel_rfl))
          exact Ri.wp_value _ (t1 ▸ Ri.run_neq rfl e1 e2 Try.underlying3) rfl
        · refine Ri.StepZ.q (by kernel_rfl) rfl fun f W hq hf A hA hB hO => ?_
          have e1 := (hA 26 2 (by kernel_rfl) (by simp)).trans (show f 2 = _ from hf 2 (by kernel_rfl))
          have e2 := (hA 38 14 (by kernel_rfl) (by simp)).trans (show f 14 = _ from hf 14 (by kernel_rfl))
          exact Ri.wp_value _ (Ri.run_pick rfl e1 (by simpa using e2)) rfl
      · intro f W hq hf
        have e15 : f 15 = .bool true := hf 15 (by decide) (by kernel_rfl)
        simp only [Ri.acts, Act.put, List.setIfInBounds_toArray, List.set_cons_zero, List.set_cons_succ, Nat.zero_add, Nat.reduceAdd]
        rw [e15]
        have HXW := hide hq
        clear hf hq e15
        have z0 : W.cell? ⟨w.heap.size + 1, 0, none⟩ = some (.slice none 0 0) := ((HQ28.out.trans HXW.out).facts.1 _ 0 hs2).trans Z0.out
        have z1 : W.cell? ⟨w.heap.size + 1, 1, none⟩ = some (.slice none 0 0) := ((HQ28.out.trans HXW.out).facts.1 _ 1 hs2).trans Z1.out
        have z2 : W.cell? ⟨w.heap.size + 1, 2, none⟩ = some (.map none) := ((HQ28.out.trans HXW.out).facts.1 _ 2 hs2).trans Z2.out
        have y0z : W.frozen? ⟨w.heap.size + 1, 0, none⟩ = false := ((HQ28.out.trans HXW.out).facts.2.1 _ 0 hs2).trans Y0.out
        have y1z : W.frozen? ⟨w.heap.size + 1, 1, none⟩ = false := ((HQ28.out.trans HXW.out).facts.2.1 _ 1 hs2).trans Y1.out
        have y2z : W.frozen? ⟨w.heap.size + 1, 2, none⟩ = false := ((HQ28.out.trans HXW.out).facts.2.1 _ 2 hs2).trans Y2.out
        obtain ⟨s0, s1, s2⟩ := set3l W (w.heap.size + 1) _ _ _ (.slice none 0 0) (.slice none 0 0) (.map none) z0 z1 z2
        have S0 := hide s0
        have S1 := hide s1
        have S2 := hide s2
        clear s0 s1 s2
        go_wp2_with fail
        have s0 := S0.out
        have s1 := S1.out
        have s2 := S2.out
        refine bodyPost_ret (v := .tuple #[.agg #[.slice none 0 0, .slice none 0 0, .map none], .slice none 0 0, .bool false]) (by simp [results, Try.results49, go_sem, s0, s1, s2]) rfl ?_
        exact ⟨(((HQ8.out.trans HXW.out).set (Nat.le_succ _) _).set (Nat.le_succ _) _).set (Nat.le_succ _) _, _, _, _, _, _, _, _, _, by rw [HCF.out], fun h => by rw [HCF.out] at h; cases h⟩
end Go.Proofs.Ytiilkiggfjpibaa
