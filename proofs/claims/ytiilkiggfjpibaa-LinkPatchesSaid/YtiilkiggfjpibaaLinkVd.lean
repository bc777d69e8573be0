/- The walk of the program's begin. Conditions: the objects read as such. -/
import Derived.Test.YtiilkiggfjpibaaLinkVc
namespace Go.Proofs.Ytiilkiggfjpibaa
open Go.RowKit LK
set_option linter.unusedVariables false
set_option linter.unusedSimpArgs false
theorem set7 (w : World) (b : Nat) (a0 a1 a2 a3 a4 a5 a6 v0 v1 v2 v3 v4 v5 v6 : Value) (h0 : w.cell? ⟨b, 0, none⟩ = some a0) (h1 : w.cell? ⟨b, 1, none⟩ = some a1) (h2 : w.cell? ⟨b, 2, none⟩ = some a2) (h3 : w.cell? ⟨b, 3, none⟩ = some a3) (h4 : w.cell? ⟨b, 4, none⟩ = some a4) (h5 : w.cell? ⟨b, 5, none⟩ = some a5) (h6 : w.cell? ⟨b, 6, none⟩ = some a6) :
    (((((((w.setCell ⟨b, 0, none⟩ v0).setCell ⟨b, 1, none⟩ v1).setCell ⟨b, 2, none⟩ v2).setCell ⟨b, 3, none⟩ v3).setCell ⟨b, 4, none⟩ v4).setCell ⟨b, 5, none⟩ v5).setCell ⟨b, 6, none⟩ v6).cell? ⟨b, 0, none⟩ = some v0 ∧
    (((((((w.setCell ⟨b, 0, none⟩ v0).setCell ⟨b, 1, none⟩ v1).setCell ⟨b, 2, none⟩ v2).setCell ⟨b, 3, none⟩ v3).setCell ⟨b, 4, none⟩ v4).setCell ⟨b, 5, none⟩ v5).setCell ⟨b, 6, none⟩ v6).cell? ⟨b, 1, none⟩ = some v1 ∧
    (((((((w.setCell ⟨b, 0, none⟩ v0).setCell ⟨b, 1, none⟩ v1).setCell ⟨b, 2, none⟩ v2).setCell ⟨b, 3, none⟩ v3).setCell ⟨b, 4, none⟩ v4).setCell ⟨b, 5, none⟩ v5).setCell ⟨b, 6, none⟩ v6).cell? ⟨b, 2, none⟩ = some v2 ∧
    (((((((w.setCell ⟨b, 0, none⟩ v0).setCell ⟨b, 1, none⟩ v1).setCell ⟨b, 2, none⟩ v2).setCell ⟨b, 3, none⟩ v3).setCell ⟨b, 4, none⟩ v4).setCell ⟨b, 5, none⟩ v5).setCell ⟨b, 6, none⟩ v6).cell? ⟨b, 3, none⟩ = some v3 ∧
    (((((((w.setCell ⟨b, 0, none⟩ v0).setCell ⟨b, 1, none⟩ v1).setCell ⟨b, 2, none⟩ v2).setCell ⟨b, 3, none⟩ v3).setCell ⟨b, 4, none⟩ v4).setCell ⟨b, 5, none⟩ v5).setCell ⟨b, 6, none⟩ v6).cell? ⟨b, 4, none⟩ = some v4 ∧
    (((((((w.setCell ⟨b, 0, none⟩ v0).setCell ⟨b, 1, none⟩ v1).setCell ⟨b, 2, none⟩ v2).setCell ⟨b, 3, none⟩ v3).setCell ⟨b, 4, none⟩ v4).setCell ⟨b, 5, none⟩ v5).setCell ⟨b, 6, none⟩ v6).cell? ⟨b, 5, none⟩ = some v5 ∧
    (((((((w.setCell ⟨b, 0, none⟩ v0).setCell ⟨b, 1, none⟩ v1).setCell ⟨b, 2, none⟩ v2).setCell ⟨b, 3, none⟩ v3).setCell ⟨b, 4, none⟩ v4).setCell ⟨b, 5, none⟩ v5).setCell ⟨b, 6, none⟩ v6).cell? ⟨b, 6, none⟩ = some v6 := by
  refine ⟨?_, ?_, ?_, ?_, ?_, ?_, ?_⟩
  · rw [World.cell?_setCell_other _ _ _ _ (by simp), World.cell?_setCell_other _ _ _ _ (by simp), World.cell?_setCell_other _ _ _ _ (by simp), World.cell?_setCell_other _ _ _ _ (by simp), World.cell?_setCell_other _ _ _ _ (by simp), World.cell?_setCell_other _ _ _ _ (by simp), World.cell?_setCell_same _ _ _ (by exact h0)]
  · rw [World.cell?_setCell_other _ _ _ _ (by simp), World.cell?_setCell_other _ _ _ _ (by simp), World.cell?_setCell_other _ _ _ _ (by simp), World.cell?_setCell_other _ _ _ _ (by simp), World.cell?_setCell_other _ _ _ _ (by simp), World.cell?_setCell_same _ _ _ (by rw [World.cell?_setCell_other _ _ _ _ (by simp)]; exact h1)]
  · rw [World.cell?_setCell_other _ _ _ _ (by simp), World.cell?_setCell_other _ _ _ _ (by simp), World.cell?_setCell_other _ _ _ _ (by simp), World.cell?_setCell_other _ _ _ _ (by simp), World.cell?_setCell_same _ _ _ (by rw [World.cell?_setCell_other _ _ _ _ (by simp), World.cell?_setCell_other _ _ _ _ (by simp)]; exact h2)]
  · rw [World.cell?_setCell_other _ _ _ _ (by simp), World.cell?_setCell_other _ _ _ _ (by simp), World.cell?_setCell_other _ _ _ _ (by simp), World.cell?_setCell_same _ _ _ (by rw [World.cell?_setCell_other _ _ _ _ (by simp), World.cell?_setCell_other _ _ _ _ (by simp), World.cell?_setCell_other _ _ _ _ (by simp)]; exact h3)]
  · rw [World.cell?_setCell_other _ _ _ _ (by simp), World.cell?_setCell_other _ _ _ _ (by simp), World.cell?_setCell_same _ _ _ (by rw [World.cell?_setCell_other _ _ _ _ (by simp), World.cell?_setCell_other _ _ _ _ (by simp), World.cell?_setCell_other _ _ _ _ (by simp), World.cell?_setCell_other _ _ _ _ (by simp)]; exact h4)]
  · rw [World.cell?_setCell_other _ _ _ _ (by simp), World.cell?_setCell_same _ _ _ (by rw [World.cell?_setCell_other _ _ _ _ (by simp), World.cell?_setCell_other _ _ _ _ (by simp), World.cell?_setCell_other _ _ _ _ (by simp), World.cell?_setCell_other _ _ _ _ (by simp), World.cell?_setCell_other _ _ _ _ (by simp)]; exact h5)]
  · rw [World.cell?_setCell_same _ _ _ (by rw [World.cell?_setCell_other _ _ _ _ (by simp), World.cell?_setCell_other _ _ _ _ (by simp), World.cell?_setCell_other _ _ _ _ (by simp), World.cell?_setCell_other _ _ _ _ (by simp), World.cell?_setCell_other _ _ _ _ (by simp), World.cell?_setCell_other _ _ _ _ (by simp)]; exact h6)]
/-- what begin hands back -/
def BegP (w : World) (A : Option Addr) (n c : Nat) (os : List OV) (i : Int) (o : OV) (e : Ending) (w' : World) : Prop :=
  Q w w' ∧ ((changeE n os i o ≠ 0 ∧ e = .returned (.tuple #[.agg #[.slice none 0 0, .slice none 0 0, .map none, .int .i64 0, .slice none 0 0, .slice none 0 0, .slice none 0 0], .int .i64 (changeE n os i o : Nat)])) ∨
    (changeE n os i o = 0 ∧ ∃ As cs mb, e = .returned (.tuple #[.agg #[.slice A n c, .slice As (n + 1) cs, .map (some mb), .int .i64 i, o.1.val, o.2.1.val, o.2.2.val], .int .i64 0]) ∧ (∃ B, w.heap.size ≤ B ∧ w'.ownsRow B 3 1 (.slice As (n + 1) cs) (n + 1) ((startsL os (n + 1)).map (Value.int .i64))) ∧ MpR w' mb (tabF 0 0 os)))
set_option maxRecDepth 100000 in
set_option maxHeartbeats 1000000 in
theorem begin_any (A : Option Addr) (n c : Nat) (os : List OV) (i : Int) (o : OV) (w : World) (hO : ObsR w A n c os) (ho : ObR w o) : Calls Try.prog 48 #[.slice A n c, .int .i64 i, obV o] w (BegP w A n c os i o) := by
  have HOB := hide ho
  obtain ⟨⟨A0, n0, c0, bs⟩, ⟨A1, n1, c1, ss⟩, ⟨A2, n2, c2, ws⟩⟩ := o
  obtain ⟨w2, hw2⟩ : ∃ w2, (w.alloc (.cells #[.slice A0 n0 c0, .slice A1 n1 c1, .slice A2 n2 c2] 34)).alloc (.cells #[.slice none 0 0, .slice none 0 0, .map none, .int .i64 0, .slice none 0 0, .slice none 0 0, .slice none 0 0] 83) = w2 := ⟨_, rfl⟩
  have hq2 : Q w w2 := by rw [← hw2]; exact ((Q.refl w).alloc _).alloc _
  have hs2 : w.heap.size + 1 < w2.heap.size := by rw [← hw2]; simp
  have hs1 : w.heap.size < w2.heap.size := by omega
  have HOP := hide (open_any A n c os _ (hO.up hq2))
  have HV := hide (fun W (h : Q w W) => Validate_any A0 n0 c0 A1 n1 c1 ss A2 n2 c2 ws W (ho.up h).s (ho.up h).t ho.sok ho.tok)
  have k0 : w2.cell? ⟨w.heap.size, 0, none⟩ = some (.slice A0 n0 c0) := by rw [← hw2]; simp
  have k1 : w2.cell? ⟨w.heap.size, 1, none⟩ = some (.slice A1 n1 c1) := by rw [← hw2]; simp
  have k2 : w2.cell? ⟨w.heap.size, 2, none⟩ = some (.slice A2 n2 c2) := by rw [← hw2]; simp
  have Z0 := hide (show w2.cell? ⟨w.heap.size + 1, 0, none⟩ = some (.slice none 0 0) by rw [← hw2]; simp)
  have Z1 := hide (show w2.cell? ⟨w.heap.size + 1, 1, none⟩ = some (.slice none 0 0) by rw [← hw2]; simp)
  have Z2 := hide (show w2.cell? ⟨w.heap.size + 1, 2, none⟩ = some (.map none) by rw [← hw2]; simp)
  have Z3 := hide (show w2.cell? ⟨w.heap.size + 1, 3, none⟩ = some (.int .i64 0) by rw [← hw2]; simp)
  have Z4 := hide (show w2.cell? ⟨w.heap.size + 1, 4, none⟩ = some (.slice none 0 0) by rw [← hw2]; simp)
  have Z5 := hide (show w2.cell? ⟨w.heap.size + 1, 5, none⟩ = some (.slice none 0 0) by rw [← hw2]; simp)
  have Z6 := hide (show w2.cell? ⟨w.heap.size + 1, 6, none⟩ = some (.slice none 0 0) by rw [← hw2]; simp)
  have Y0 := hide (show w2.frozen? ⟨w.heap.size + 1, 0, none⟩ = false by rw [← hw2]; simp)
  have Y1 := hide (show w2.frozen? ⟨w.heap.size + 1, 1, none⟩ = false by rw [← hw2]; simp)
  have Y2 := hide (show w2.frozen? ⟨w.heap.size + 1, 2, none⟩ = false by rw [← hw2]; simp)
  have Y3 := hide (show w2.frozen? ⟨w.heap.size + 1, 3, none⟩ = false by rw [← hw2]; simp)
  have Y4 := hide (show w2.frozen? ⟨w.heap.size + 1, 4, none⟩ = false by rw [← hw2]; simp)
  have Y5 := hide (show w2.frozen? ⟨w.heap.size + 1, 5, none⟩ = false by rw [← hw2]; simp)
  have Y6 := hide (show w2.frozen? ⟨w.heap.size + 1, 6, none⟩ = false by rw [← hw2]; simp)
  have HB2 := hide (show w2.heap[w.heap.size + 1]? = some (.cells #[.slice none 0 0, .slice none 0 0, .map none, .int .i64 0, .slice none 0 0, .slice none 0 0, .slice none 0 0] 83 (0, 0)) by rw [← hw2]; have := heap_alloc_new (w.alloc (.cells #[.slice A0 n0 c0, .slice A1 n1 c1, .slice A2 n2 c2] 34)) (.cells #[.slice none 0 0, .slice none 0 0, .map none, .int .i64 0, .slice none 0 0, .slice none 0 0, .slice none 0 0] 83); simpa using this)
  have hmost := hO.sl.most
  have hcap := hO.sl.cap
  have hni : (n : Int) ≤ 9223372036854775807 := by omega
  have hll := listedO_le os
  have hCE : changeE n os i (⟨A0, n0, c0, bs⟩, ⟨A1, n1, c1, ss⟩, ⟨A2, n2, c2, ws⟩) = if listedO os ≠ 0 then listedO os else if 0 ≤ i ∧ i < n then validF n0 ss ws else 4 := rfl
  have HCE := hide hCE
  have HW2 := hide hw2
  have HQ2 := hide hq2
  have K0 := hide k0
  have K1 := hide k1
  have K2 := hide k2
  clear hw2 hq2 k0 k1 k2
  unfold obV SlV.val
  dsimp only
  clear hO ho hCE hmost hcap
  go_enter Try.func48, Try.ntmps48
  go_wp2_with fail
  rw [HW2.out]
  refine HOP.out.mono ?_
  rintro e w3 ⟨hq3, hcase⟩
  have HQ3 := hide (HQ2.out.trans hq3)
  have hsz := hq3.size
  have k0 := (hq3.facts.1 _ 0 hs1).trans K0.out
  have k1 := (hq3.facts.1 _ 1 hs1).trans K1.out
  have k2 := (hq3.facts.1 _ 2 hs1).trans K2.out
  have hs3 : w.heap.size + 1 < w3.heap.size := by omega
  have hs31 : w.heap.size < w3.heap.size := by omega
  have z0 : w3.cell? ⟨w.heap.size + 1, 0, none⟩ = some (.slice none 0 0) := (hq3.facts.1 _ 0 hs2).trans Z0.out
  have z1 : w3.cell? ⟨w.heap.size + 1, 1, none⟩ = some (.slice none 0 0) := (hq3.facts.1 _ 1 hs2).trans Z1.out
  have z2 : w3.cell? ⟨w.heap.size + 1, 2, none⟩ = some (.map none) := (hq3.facts.1 _ 2 hs2).trans Z2.out
  have z3 : w3.cell? ⟨w.heap.size + 1, 3, none⟩ = some (.int .i64 0) := (hq3.facts.1 _ 3 hs2).trans Z3.out
  have z4 : w3.cell? ⟨w.heap.size + 1, 4, none⟩ = some (.slice none 0 0) := (hq3.facts.1 _ 4 hs2).trans Z4.out
  have z5 : w3.cell? ⟨w.heap.size + 1, 5, none⟩ = some (.slice none 0 0) := (hq3.facts.1 _ 5 hs2).trans Z5.out
  have z6 : w3.cell? ⟨w.heap.size + 1, 6, none⟩ = some (.slice none 0 0) := (hq3.facts.1 _ 6 hs2).trans Z6.out
  have y0 : w3.frozen? ⟨w.heap.size + 1, 0, none⟩ = false := (hq3.facts.2.1 _ 0 hs2).trans Y0.out
  have y1 : w3.frozen? ⟨w.heap.size + 1, 1, none⟩ = false := (hq3.facts.2.1 _ 1 hs2).trans Y1.out
  have y2 : w3.frozen? ⟨w.heap.size + 1, 2, none⟩ = false := (hq3.facts.2.1 _ 2 hs2).trans Y2.out
  have y3 : w3.frozen? ⟨w.heap.size + 1, 3, none⟩ = false := (hq3.facts.2.1 _ 3 hs2).trans Y3.out
  have y4 : w3.frozen? ⟨w.heap.size + 1, 4, none⟩ = false := (hq3.facts.2.1 _ 4 hs2).trans Y4.out
  have y5 : w3.frozen? ⟨w.heap.size + 1, 5, none⟩ = false := (hq3.facts.2.1 _ 5 hs2).trans Y5.out
  have y6 : w3.frozen? ⟨w.heap.size + 1, 6, none⟩ = false := (hq3.facts.2.1 _ 6 hs2).trans Y6.out
  rcases hcase with ⟨hne, rfl⟩ | ⟨h0, As, cs, mb, rfl, hown, hmp⟩
  · have hd : ((listedO os : Int) != 0) = true := by simp; omega
    have hli : (listedO os : Int) ≤ 5 := by omega
    have HNE := hide hne
    obtain ⟨le, hle⟩ : ∃ le, listedO os = le := ⟨_, rfl⟩
    have HLE := hide hle
    rw [hle] at hd hli ⊢
    clear hq3 hne hle
    obtain ⟨s0, s1, s2, s3, s4, s5, s6⟩ := set7 w3 (w.heap.size + 1) _ _ _ _ _ _ _ (.slice none 0 0) (.slice none 0 0) (.map none) (.int .i64 0) (.slice none 0 0) (.slice none 0 0) (.slice none 0 0) z0 z1 z2 z3 z4 z5 z6
    have S0 := hide ((((Q.refl _).alloc (.cells #[.slice none 0 0, .slice none 0 0, .map none] 78)).facts.1 _ 0 (by simp; omega)).trans s0)
    have S1 := hide ((((Q.refl _).alloc (.cells #[.slice none 0 0, .slice none 0 0, .map none] 78)).facts.1 _ 1 (by simp; omega)).trans s1)
    have S2 := hide ((((Q.refl _).alloc (.cells #[.slice none 0 0, .slice none 0 0, .map none] 78)).facts.1 _ 2 (by simp; omega)).trans s2)
    have S3 := hide ((((Q.refl _).alloc (.cells #[.slice none 0 0, .slice none 0 0, .map none] 78)).facts.1 _ 3 (by simp; omega)).trans s3)
    have S4 := hide ((((Q.refl _).alloc (.cells #[.slice none 0 0, .slice none 0 0, .map none] 78)).facts.1 _ 4 (by simp; omega)).trans s4)
    have S5 := hide ((((Q.refl _).alloc (.cells #[.slice none 0 0, .slice none 0 0, .map none] 78)).facts.1 _ 5 (by simp; omega)).trans s5)
    have S6 := hide ((((Q.refl _).alloc (.cells #[.slice none 0 0, .slice none 0 0, .map none] 78)).facts.1 _ 6 (by simp; omega)).trans s6)
    clear s0 s1 s2 s3 s4 s5 s6 
    go_wp2_with fail
    have s0 := S0.out
    have s1 := S1.out
    have s2 := S2.out
    have s3 := S3.out
    have s4 := S4.out
    have s5 := S5.out
    have s6 := S6.out
    refine bodyPost_ret (v := .tuple #[.agg #[.slice none 0 0, .slice none 0 0, .map none, .int .i64 0, .slice none 0 0, .slice none 0 0, .slice none 0 0], .int .i64 (le : Nat)]) (by simp [results, Try.results48, go_sem, s0, s1, s2, s3, s4, s5, s6]) rfl ?_
    exact ⟨((((((((HQ3.out).set (Nat.le_succ _) _).set (Nat.le_succ _) _).set (Nat.le_succ _) _).set (Nat.le_succ _) _).set (Nat.le_succ _) _).set (Nat.le_succ _) _).set (Nat.le_succ _) _).alloc _, .inl ⟨by rw [HCE.out, if_pos HNE.out]; exact HNE.out, by rw [HCE.out, if_pos HNE.out, HLE.out]⟩⟩
  · have hd : ((0 : Int) != 0) = false := rfl
    have HL0 := hide h0
    have HOWN := hide hown
    have HMP := hide hmp
    clear hown hmp
    by_cases hin : 0 ≤ i ∧ i < n
    · obtain ⟨vd, hvd⟩ : ∃ vd, validF n0 ss ws = vd := ⟨_, rfl⟩
      have hvl := valid_le (⟨A0, n0, c0, bs⟩, ⟨A1, n1, c1, ss⟩, ⟨A2, n2, c2, ws⟩)
      have hCE : changeE n os i (⟨A0, n0, c0, bs⟩, ⟨A1, n1, c1, ss⟩, ⟨A2, n2, c2, ws⟩) = vd := by rw [HCE.out, if_neg (by rw [h0]; simp), if_pos hin, hvd]
      have hvr : OV.valid (⟨A0, n0, c0, bs⟩, ⟨A1, n1, c1, ss⟩, ⟨A2, n2, c2, ws⟩) = vd := hvd
      rw [hvr] at hvl
      rw [hvd] at HV
      have HCV := hide hCE
      obtain ⟨hi0, hi1⟩ := hin
      have d1 : decide (i < 0) = false := by simp; omega
      have d2 : decide ((n : Int) ≤ i) = false := by simp; omega
      have hvi : (vd : Int) ≤ 5 := by omega
      have HQ23 := hide hq3
      clear hq3 hCE hvr hvd h0
      go_wp2_with fail
      refine (HV.out _ (HQ3.out.alloc _)).mono ?_
      rintro e w5 ⟨rfl, hq5⟩
      have hq35 : Q w3 w5 := ((Q.refl w3).alloc _).trans hq5
      have x0 : w5.cell? ⟨w3.heap.size, 0, none⟩ = some (.slice A n c) := (hq5.facts.1 w3.heap.size 0 (by simp)).trans (by simp)
      have x1 : w5.cell? ⟨w3.heap.size, 1, none⟩ = some (.slice As (n + 1) cs) := (hq5.facts.1 w3.heap.size 1 (by simp)).trans (by simp)
      have x2 : w5.cell? ⟨w3.heap.size, 2, none⟩ = some (.map (some mb)) := (hq5.facts.1 w3.heap.size 2 (by simp)).trans (by simp)
      have k0 := ((HQ23.out.trans hq35).facts.1 _ 0 hs1).trans K0.out
      have k1 := ((HQ23.out.trans hq35).facts.1 _ 1 hs1).trans K1.out
      have k2 := ((HQ23.out.trans hq35).facts.1 _ 2 hs1).trans K2.out
      have z0 : w5.cell? ⟨w.heap.size + 1, 0, none⟩ = some (.slice none 0 0) := ((HQ23.out.trans hq35).facts.1 _ 0 hs2).trans Z0.out
      have z1 : w5.cell? ⟨w.heap.size + 1, 1, none⟩ = some (.slice none 0 0) := ((HQ23.out.trans hq35).facts.1 _ 1 hs2).trans Z1.out
      have z2 : w5.cell? ⟨w.heap.size + 1, 2, none⟩ = some (.map none) := ((HQ23.out.trans hq35).facts.1 _ 2 hs2).trans Z2.out
      have z3 : w5.cell? ⟨w.heap.size + 1, 3, none⟩ = some (.int .i64 0) := ((HQ23.out.trans hq35).facts.1 _ 3 hs2).trans Z3.out
      have z4 : w5.cell? ⟨w.heap.size + 1, 4, none⟩ = some (.slice none 0 0) := ((HQ23.out.trans hq35).facts.1 _ 4 hs2).trans Z4.out
      have z5 : w5.cell? ⟨w.heap.size + 1, 5, none⟩ = some (.slice none 0 0) := ((HQ23.out.trans hq35).facts.1 _ 5 hs2).trans Z5.out
      have z6 : w5.cell? ⟨w.heap.size + 1, 6, none⟩ = some (.slice none 0 0) := ((HQ23.out.trans hq35).facts.1 _ 6 hs2).trans Z6.out
      have y0 : w5.frozen? ⟨w.heap.size + 1, 0, none⟩ = false := ((HQ23.out.trans hq35).facts.2.1 _ 0 hs2).trans Y0.out
      have y1 : w5.frozen? ⟨w.heap.size + 1, 1, none⟩ = false := ((HQ23.out.trans hq35).facts.2.1 _ 1 hs2).trans Y1.out
      have y2 : w5.frozen? ⟨w.heap.size + 1, 2, none⟩ = false := ((HQ23.out.trans hq35).facts.2.1 _ 2 hs2).trans Y2.out
      have y3 : w5.frozen? ⟨w.heap.size + 1, 3, none⟩ = false := ((HQ23.out.trans hq35).facts.2.1 _ 3 hs2).trans Y3.out
      have y4 : w5.frozen? ⟨w.heap.size + 1, 4, none⟩ = false := ((HQ23.out.trans hq35).facts.2.1 _ 4 hs2).trans Y4.out
      have y5 : w5.frozen? ⟨w.heap.size + 1, 5, none⟩ = false := ((HQ23.out.trans hq35).facts.2.1 _ 5 hs2).trans Y5.out
      have y6 : w5.frozen? ⟨w.heap.size + 1, 6, none⟩ = false := ((HQ23.out.trans hq35).facts.2.1 _ 6 hs2).trans Y6.out
      have HQ5 := hide (HQ3.out.trans hq35)
      have HQ35 := hide hq35
      clear hq5 hq35
      rcases Nat.eq_zero_or_pos vd with hv | hv
      · have hdv : ((vd : Int) != 0) = false := by rw [hv]; rfl
        have HVP := hide hv
        clear hv
        obtain ⟨s0, s1, s2, s3, s4, s5, s6⟩ := set7 w5 (w.heap.size + 1) _ _ _ _ _ _ _ (.slice A n c) (.slice As (n + 1) cs) (.map (some mb)) (.int .i64 i) (.slice A0 n0 c0) (.slice A1 n1 c1) (.slice A2 n2 c2) z0 z1 z2 z3 z4 z5 z6
        have S0 := hide s0
        have S1 := hide s1
        have S2 := hide s2
        have S3 := hide s3
        have S4 := hide s4
        have S5 := hide s5
        have S6 := hide s6
        clear s0 s1 s2 s3 s4 s5 s6 
        go_wp2_with fail
        have s0 := S0.out
        have s1 := S1.out
        have s2 := S2.out
        have s3 := S3.out
        have s4 := S4.out
        have s5 := S5.out
        have s6 := S6.out
        refine bodyPost_ret (v := .tuple #[.agg #[.slice A n c, .slice As (n + 1) cs, .map (some mb), .int .i64 i, .slice A0 n0 c0, .slice A1 n1 c1, .slice A2 n2 c2], .int .i64 0]) (by simp [results, Try.results48, go_sem, s0, s1, s2, s3, s4, s5, s6]) rfl ?_
        have hmb : some mb ≠ some (w.heap.size + 1) := by
          intro e
          injection e with e
          obtain ⟨es, cl, hm⟩ := HMP.out.blk
          have hb := (HQ23.out.below.block _ hs2).trans HB2.out
          rw [e, hb] at hm
          cases hm
        have hlt : w.heap.size + 1 < w2.heap.size := hs2
        exact ⟨(((((((HQ5.out).set (Nat.le_succ _) _).set (Nat.le_succ _) _).set (Nat.le_succ _) _).set (Nat.le_succ _) _).set (Nat.le_succ _) _).set (Nat.le_succ _) _).set (Nat.le_succ _) _, .inr ⟨HCV.out.trans HVP.out, As, cs, mb, rfl, ⟨w2.heap.size, HQ2.out.size, ownsRow_setCell_below (ownsRow_setCell_below (ownsRow_setCell_below (ownsRow_setCell_below (ownsRow_setCell_below (ownsRow_setCell_below (ownsRow_setCell_below (own_q HOWN.out HQ35.out) (by exact hlt) _) (by exact hlt) _) (by exact hlt) _) (by exact hlt) _) (by exact hlt) _) (by exact hlt) _) (by exact hlt) _⟩, (HMP.out.up HQ35.out).kept ((((((grown_cell.trans grown_cell).trans grown_cell).trans grown_cell).trans grown_cell).trans grown_cell).trans grown_cell) hmb⟩⟩
      · have hdv : ((vd : Int) != 0) = true := by simp; omega
        have HVP := hide hv
        clear hv
        obtain ⟨s0, s1, s2, s3, s4, s5, s6⟩ := set7 w5 (w.heap.size + 1) _ _ _ _ _ _ _ (.slice none 0 0) (.slice none 0 0) (.map none) (.int .i64 0) (.slice none 0 0) (.slice none 0 0) (.slice none 0 0) z0 z1 z2 z3 z4 z5 z6
        have S0 := hide s0
        have S1 := hide s1
        have S2 := hide s2
        have S3 := hide s3
        have S4 := hide s4
        have S5 := hide s5
        have S6 := hide s6
        clear s0 s1 s2 s3 s4 s5 s6 
        go_wp2_with fail
        have s0 := S0.out
        have s1 := S1.out
        have s2 := S2.out
        have s3 := S3.out
        have s4 := S4.out
        have s5 := S5.out
        have s6 := S6.out
        refine bodyPost_ret (v := .tuple #[.agg #[.slice none 0 0, .slice none 0 0, .map none, .int .i64 0, .slice none 0 0, .slice none 0 0, .slice none 0 0], .int .i64 (vd : Nat)]) (by simp [results, Try.results48, go_sem, s0, s1, s2, s3, s4, s5, s6]) rfl ?_
        exact ⟨(((((((HQ5.out).set (Nat.le_succ _) _).set (Nat.le_succ _) _).set (Nat.le_succ _) _).set (Nat.le_succ _) _).set (Nat.le_succ _) _).set (Nat.le_succ _) _).set (Nat.le_succ _) _, .inl ⟨by rw [HCV.out]; have := HVP.out; omega, by rw [HCV.out]⟩⟩
    · have hCE : changeE n os i (⟨A0, n0, c0, bs⟩, ⟨A1, n1, c1, ss⟩, ⟨A2, n2, c2, ws⟩) = 4 := by rw [HCE.out, if_neg (by rw [h0]; simp), if_neg hin]
      have HCV := hide hCE
      clear hCE hq3 h0
      by_cases hi0 : i < 0
      · have d1 : decide (i < 0) = true := by simp; omega
        clear hin
        obtain ⟨s0, s1, s2, s3, s4, s5, s6⟩ := set7 w3 (w.heap.size + 1) _ _ _ _ _ _ _ (.slice none 0 0) (.slice none 0 0) (.map none) (.int .i64 0) (.slice none 0 0) (.slice none 0 0) (.slice none 0 0) z0 z1 z2 z3 z4 z5 z6
        have S0 := hide ((((Q.refl _).alloc (.cells #[.slice A n c, .slice As (n + 1) cs, .map (some mb)] 78)).facts.1 _ 0 (by simp; omega)).trans s0)
        have S1 := hide ((((Q.refl _).alloc (.cells #[.slice A n c, .slice As (n + 1) cs, .map (some mb)] 78)).facts.1 _ 1 (by simp; omega)).trans s1)
        have S2 := hide ((((Q.refl _).alloc (.cells #[.slice A n c, .slice As (n + 1) cs, .map (some mb)] 78)).facts.1 _ 2 (by simp; omega)).trans s2)
        have S3 := hide ((((Q.refl _).alloc (.cells #[.slice A n c, .slice As (n + 1) cs, .map (some mb)] 78)).facts.1 _ 3 (by simp; omega)).trans s3)
        have S4 := hide ((((Q.refl _).alloc (.cells #[.slice A n c, .slice As (n + 1) cs, .map (some mb)] 78)).facts.1 _ 4 (by simp; omega)).trans s4)
        have S5 := hide ((((Q.refl _).alloc (.cells #[.slice A n c, .slice As (n + 1) cs, .map (some mb)] 78)).facts.1 _ 5 (by simp; omega)).trans s5)
        have S6 := hide ((((Q.refl _).alloc (.cells #[.slice A n c, .slice As (n + 1) cs, .map (some mb)] 78)).facts.1 _ 6 (by simp; omega)).trans s6)
        clear s0 s1 s2 s3 s4 s5 s6 
        go_wp2_with fail
        have s0 := S0.out
        have s1 := S1.out
        have s2 := S2.out
        have s3 := S3.out
        have s4 := S4.out
        have s5 := S5.out
        have s6 := S6.out
        refine bodyPost_ret (v := .tuple #[.agg #[.slice none 0 0, .slice none 0 0, .map none, .int .i64 0, .slice none 0 0, .slice none 0 0, .slice none 0 0], .int .i64 4]) (by simp [results, Try.results48, go_sem, s0, s1, s2, s3, s4, s5, s6]) rfl ?_
        exact ⟨((((((((HQ3.out).set (Nat.le_succ _) _).set (Nat.le_succ _) _).set (Nat.le_succ _) _).set (Nat.le_succ _) _).set (Nat.le_succ _) _).set (Nat.le_succ _) _).set (Nat.le_succ _) _).alloc _, .inl ⟨by rw [HCV.out]; decide, by rw [HCV.out]; rfl⟩⟩
      · have d1 : decide (i < 0) = false := by simp; omega
        have hi1 : (n : Int) ≤ i := by omega
        have d2 : decide ((n : Int) ≤ i) = true := by simp; omega
        clear hin
        obtain ⟨s0, s1, s2, s3, s4, s5, s6⟩ := set7 w3 (w.heap.size + 1) _ _ _ _ _ _ _ (.slice none 0 0) (.slice none 0 0) (.map none) (.int .i64 0) (.slice none 0 0) (.slice none 0 0) (.slice none 0 0) z0 z1 z2 z3 z4 z5 z6
        have S0 := hide ((((Q.refl _).alloc (.cells #[.slice A n c, .slice As (n + 1) cs, .map (some mb)] 78)).facts.1 _ 0 (by simp; omega)).trans s0)
        have S1 := hide ((((Q.refl _).alloc (.cells #[.slice A n c, .slice As (n + 1) cs, .map (some mb)] 78)).facts.1 _ 1 (by simp; omega)).trans s1)
        have S2 := hide ((((Q.refl _).alloc (.cells #[.slice A n c, .slice As (n + 1) cs, .map (some mb)] 78)).facts.1 _ 2 (by simp; omega)).trans s2)
        have S3 := hide ((((Q.refl _).alloc (.cells #[.slice A n c, .slice As (n + 1) cs, .map (some mb)] 78)).facts.1 _ 3 (by simp; omega)).trans s3)
        have S4 := hide ((((Q.refl _).alloc (.cells #[.slice A n c, .slice As (n + 1) cs, .map (some mb)] 78)).facts.1 _ 4 (by simp; omega)).trans s4)
        have S5 := hide ((((Q.refl _).alloc (.cells #[.slice A n c, .slice As (n + 1) cs, .map (some mb)] 78)).facts.1 _ 5 (by simp; omega)).trans s5)
        have S6 := hide ((((Q.refl _).alloc (.cells #[.slice A n c, .slice As (n + 1) cs, .map (some mb)] 78)).facts.1 _ 6 (by simp; omega)).trans s6)
        clear s0 s1 s2 s3 s4 s5 s6 
        go_wp2_with fail
        have s0 := S0.out
        have s1 := S1.out
        have s2 := S2.out
        have s3 := S3.out
        have s4 := S4.out
        have s5 := S5.out
        have s6 := S6.out
        refine bodyPost_ret (v := .tuple #[.agg #[.slice none 0 0, .slice none 0 0, .map none, .int .i64 0, .slice none 0 0, .slice none 0 0, .slice none 0 0], .int .i64 4]) (by simp [results, Try.results48, go_sem, s0, s1, s2, s3, s4, s5, s6]) rfl ?_
        exact ⟨((((((((HQ3.out).set (Nat.le_succ _) _).set (Nat.le_succ _) _).set (Nat.le_succ _) _).set (Nat.le_succ _) _).set (Nat.le_succ _) _).set (Nat.le_succ _) _).set (Nat.le_succ _) _).alloc _, .inl ⟨by rw [HCV.out]; decide, by rw [HCV.out]; rfl⟩⟩
end Go.Proofs.Ytiilkiggfjpibaa
