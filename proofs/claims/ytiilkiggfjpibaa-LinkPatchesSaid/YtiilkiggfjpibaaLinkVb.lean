/- The walk of the reference's With: a list of objects with one exchanged. Conditions: the objects read as such. -/
import Derived.Test.YtiilkiggfjpibaaLinkTj
namespace Go.Proofs.Ytiilkiggfjpibaa
open Go.RowKit LK
set_option linter.unusedVariables false
set_option linter.unusedSimpArgs false
theorem flat_set {o : OV} : ∀ {os : List OV} {i : Nat} {p : OV}, os[i]? = some p → (((os.flatMap encO).set (i * 3) o.1.val).set (i * 3 + 1) o.2.1.val).set (i * 3 + 2) o.2.2.val = (os.set i o).flatMap encO
  | [], i, p, h => by simp at h
  | q :: os, 0, p, h => by simp [encO, encV]
  | q :: os, i + 1, p, h => by
    have ih := flat_set (o := o) (os := os) (i := i) (p := p) (by simpa using h)
    simp only [List.flatMap_cons, List.set_cons_succ]
    rw [← ih, show (i + 1) * 3 = i * 3 + 3 by omega, show i * 3 + 3 + 1 = i * 3 + 1 + 3 by omega, show i * 3 + 3 + 2 = i * 3 + 2 + 3 by omega]
    simp [encO, encV, List.set_cons_succ]
set_option maxRecDepth 100000 in
set_option maxHeartbeats 4000000 in
theorem With_any (A : Option Addr) (n c : Nat) (os : List OV) (i : Nat) (o : OV) (w : World) (hO : ObsR w A n c os) (hi : i < n) (hn : n ≤ 8) : Calls Try.prog 19 #[.slice A n c, .int .i64 (i : Nat), obV o] w fun e w' => ∃ v, e = .returned v ∧ w'.ownsRow w.heap.size 34 3 v n ((os.set i o).flatMap encO) ∧ Q w w' := by
  have HO := hide hO
  have hl := hO.sl.len
  obtain ⟨p, hp⟩ : ∃ p, os[i]? = some p := ⟨_, List.getElem?_eq_getElem (by omega)⟩
  have HFS := hide (flat_set (o := o) hp)
  have HG := hide (show (os.flatMap encO)[i * 3]? = some p.1.val ∧ (os.flatMap encO)[i * 3 + 1]? = some p.2.1.val ∧ (os.flatMap encO)[i * 3 + 2]? = some p.2.2.val from ⟨flatMap_get (enc := encO) (k := 3) (fun _ => rfl) os i 0 p hp (by decide), flatMap_get (enc := encO) (k := 3) (fun _ => rfl) os i 1 p hp (by decide), flatMap_get (enc := encO) (k := 3) (fun _ => rfl) os i 2 p hp (by decide)⟩)
  obtain ⟨⟨A0, n0, c0, bs⟩, ⟨A1, n1, c1, ss⟩, ⟨A2, n2, c2, ws⟩⟩ := o
  obtain ⟨w1, hw1⟩ : ∃ w1, w.alloc (.cells #[.slice A0 n0 c0, .slice A1 n1 c1, .slice A2 n2 c2] 34) = w1 := ⟨_, rfl⟩
  have hq1 : Q w w1 := by rw [← hw1]; exact (Q.refl w).alloc _
  have hs1 : w.heap.size < w1.heap.size := by rw [← hw1]; simp
  have k0 : w1.cell? ⟨w.heap.size, 0, none⟩ = some (.slice A0 n0 c0) := by rw [← hw1]; simp
  have k1 : w1.cell? ⟨w.heap.size, 1, none⟩ = some (.slice A1 n1 c1) := by rw [← hw1]; simp
  have k2 : w1.cell? ⟨w.heap.size, 2, none⟩ = some (.slice A2 n2 c2) := by rw [← hw1]; simp
  have ho := own_lit0 w1 w.heap.size 34 3 (w.heap.size + 1) (by rw [← hw1]; simp) (by omega)
  have HLT := hide ho
  have hii : (i : Int) < (n : Int) := by omega
  have hni : (n : Int) ≤ 8 := by omega
  have HP := hide hp
  have HL := hide hl
  have HN := hide hn
  have HII := hide hi
  subst hw1
  have HQ1 := hide hq1
  have K0 := hide k0
  have K1 := hide k1
  have K2 := hide k2
  clear hq1 k0 k1 k2
  unfold obV SlV.val
  unfold SlV.val at HFS
  dsimp only at HFS ⊢
  clear hO ho hp hl
  go_enter Try.func19, Try.ntmps19
  go_wp2_with (at_builtin; go_loud (refine wpList_appnew rfl El_obj _ _ rfl rfl rfl HLT.out HO.out.nil_ ?_ ((HO.out.up HQ1.out).sl.rd.up ((Q.refl _).alloc _)) (one_cell one_obj _) ?_ ?_ ?_; (focus (rw [flatMap_length (k := 3) (fun _ => rfl), HL.out])); (focus (have := HN.out; omega)); (focus (simp; omega)); intro v5 w5 hv5 hq5; have HV5 := hide hv5; have HQ5 := hide (show Q (w.alloc (.cells #[.slice A0 n0 c0, .slice A1 n1 c1, .slice A2 n2 c2] 34)) w5 from ((Q.refl _).alloc _).trans hq5); clear hv5 hq5; obtain ⟨g, cg, e5, hgb, hgl, hgn, hgm, hcell, hfz⟩ := own_at HV5.out (by have := HII.out; omega); subst e5; have y0 := hcell (i * 3) _ HG.out.1; have y1 := hcell (i * 3 + 1) _ HG.out.2.1; have y2 := hcell (i * 3 + 2) _ HG.out.2.2; have z0 := hfz (i * 3); have z1 := hfz (i * 3 + 1); have z2 := hfz (i * 3 + 2); have k0 := (HQ5.out.facts.1 _ 0 hs1).trans K0.out; have k1 := (HQ5.out.facts.1 _ 1 hs1).trans K1.out; have k2 := (HQ5.out.facts.1 _ 2 hs1).trans K2.out; clear hcell hfz))
  go_ret
  refine ⟨_, rfl, ?_, (((HQ1.out.trans HQ5.out).set hgb _).set hgb _).set hgb _⟩
  rw [← HFS.out]
  exact own_set (own_set (own_set HV5.out _ _) _ _) _ _
end Go.Proofs.Ytiilkiggfjpibaa
