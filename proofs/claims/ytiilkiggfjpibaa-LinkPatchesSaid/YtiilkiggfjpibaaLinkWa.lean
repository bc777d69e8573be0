/- CanPatch; objects with the same data may stand for each other in a patch; what Check says of an image, and of one with another byte. Conditions: as each theorem says. -/
import Derived.Test.YtiilkiggfjpibaaLinkVr
namespace Go.Proofs.Ytiilkiggfjpibaa
open Go.RowKit LK
set_option linter.unusedVariables false
set_option linter.unusedSimpArgs false
/-- what CanPatch says -/
def cpE (n : Nat) (os : List OV) (i : Int) (o : OV) : Bool := if changeE n os i o ≠ 0 then false else match os[i.toNat]? with
  | none => false
  | some p => canB os i.toNat o p
set_option maxRecDepth 100000 in
set_option maxHeartbeats 4000000 in
theorem CanPatch_any (A : Option Addr) (n c : Nat) (os : List OV) (i : Int) (o : OV) (w : World) (hO : ObsR w A n c os) (ho : ObR w o) : Calls Try.prog 15 #[.slice A n c, .int .i64 i, obV o] w fun e w' => e = .returned (.tuple #[.bool (cpE n os i o), .int .i64 (changeE n os i o : Nat)]) ∧ Q w w' := by
  have HO := hide hO
  have HOB := hide ho
  have hl := hO.sl.len
  obtain ⟨o0, ho0⟩ : ∃ o0, o0 = o := ⟨_, rfl⟩
  obtain ⟨⟨A0, n0, c0, bs⟩, ⟨A1, n1, c1, ss⟩, ⟨A2, n2, c2, ws⟩⟩ := o
  obtain ⟨w1, hw1⟩ : ∃ w1, w.alloc (.cells #[.slice A0 n0 c0, .slice A1 n1 c1, .slice A2 n2 c2] 34) = w1 := ⟨_, rfl⟩
  have hq1 : Q w w1 := by rw [← hw1]; exact (Q.refl w).alloc _
  have k0 : w1.cell? ⟨w.heap.size, 0, none⟩ = some (.slice A0 n0 c0) := by rw [← hw1]; simp
  have k1 : w1.cell? ⟨w.heap.size, 1, none⟩ = some (.slice A1 n1 c1) := by rw [← hw1]; simp
  have k2 : w1.cell? ⟨w.heap.size, 2, none⟩ = some (.slice A2 n2 c2) := by rw [← hw1]; simp
  have HBG := hide (begin_any A n c os i _ w1 (hO.up hq1) (ho.up hq1))
  rw [← ho0] at HBG HOB ⊢
  have HOZ := hide ho0
  obtain ⟨ce, hce⟩ : ∃ ce, changeE n os i o0 = ce := ⟨_, rfl⟩
  obtain ⟨cp, hcp⟩ : ∃ cp, cpE n os i o0 = cp := ⟨_, rfl⟩
  rw [hce, hcp]
  have HCE := hide hce
  have HCP := hide hcp
  have HQ1 := hide hq1
  have HW1 := hide hw1
  have HLL := hide hl
  rw [ho0]
  rw [ho0] at HBG
  unfold obV SlV.val
  unfold obV SlV.val at HBG
  dsimp only at HBG ⊢
  rw [← ho0] at HBG
  clear hO ho hl hce hcp hq1 hw1
  go_enter Try.func15, Try.ntmps15
  go_wp2_with fail
  rw [HW1.out]
  clear k0 k1 k2 ho0
  refine HBG.out.mono ?_
  rintro e w2 ⟨hq2, hcase⟩
  rcases hcase with ⟨hne, rfl⟩ | ⟨h0, As, cs, mb, he, ⟨B2', hB2, hown2⟩, hmp⟩
  · have hcf : cp = false := by rw [← HCP.out]; unfold cpE; rw [if_pos hne]
    rw [HCE.out] at hne ⊢
    have d1 : ((ce : Int) != 0) = true := by simp; omega
    have HNE := hide hne
    have HCF := hide hcf
    clear hne hcf
    go_wp2_with fail
    go_ret2
    exact ⟨by rw [HCF.out]; rfl, (HQ1.out.trans hq2).alloc _⟩
  · rw [HOZ.out] at he
    unfold SlV.val at he
    dsimp only at he
    subst he
    obtain ⟨hl0, hi0, hi1, hov⟩ := change_ok h0
    obtain ⟨k, rfl⟩ : ∃ k : Nat, i = (k : Int) := ⟨i.toNat, by omega⟩
    have hk : k < n := by omega
    obtain ⟨h8, hv⟩ := listed_zero2 hl0
    have hn8 : n ≤ 8 := by have := HLL.out; omega
    obtain ⟨p, hp⟩ : ∃ p, os[k]? = some p := ⟨_, List.getElem?_eq_getElem (by have := HLL.out; omega)⟩
    have hcp2 : cp = canB os k o0 p := by
      rw [← HCP.out]
      unfold cpE
      rw [if_neg (by simp [h0]), Int.toNat_natCast, hp]
    have hce0 : ce = 0 := HCE.out.symm.trans h0
    obtain ⟨w3, hw3⟩ : ∃ w3, w2.alloc (.cells #[.slice A n c, .slice As (n + 1) cs, .map (some mb), .int .i64 ((k : Nat) : Int), .slice A0 n0 c0, .slice A1 n1 c1, .slice A2 n2 c2] 83) = w3 := ⟨_, rfl⟩
    have hq3 : Q w2 w3 := by rw [← hw3]; exact (Q.refl w2).alloc _
    have hb3 : w3.heap[w2.heap.size]? = some (.cells #[.slice A n c, .slice As (n + 1) cs, .map (some mb), .int .i64 ((k : Nat) : Int), .slice A0 n0 c0, .slice A1 n1 c1, .slice A2 n2 c2] 83 (0, 0)) := by rw [← hw3]; exact heap_alloc_new w2 _
    have k0 : w3.cell? ⟨w2.heap.size, 0, none⟩ = some (.slice A n c) := cell_blkJ (j := 0) hb3 rfl
    have k1 : w3.cell? ⟨w2.heap.size, 1, none⟩ = some (.slice As (n + 1) cs) := cell_blkJ (j := 1) hb3 rfl
    have k2 : w3.cell? ⟨w2.heap.size, 2, none⟩ = some (.map (some mb)) := cell_blkJ (j := 2) hb3 rfl
    have k3 : w3.cell? ⟨w2.heap.size, 3, none⟩ = some (.int .i64 ((k : Nat) : Int)) := cell_blkJ (j := 3) hb3 rfl
    have k4 : w3.cell? ⟨w2.heap.size, 4, none⟩ = some (.slice A0 n0 c0) := cell_blkJ (j := 4) hb3 rfl
    have k5 : w3.cell? ⟨w2.heap.size, 5, none⟩ = some (.slice A1 n1 c1) := cell_blkJ (j := 5) hb3 rfl
    have k6 : w3.cell? ⟨w2.heap.size, 6, none⟩ = some (.slice A2 n2 c2) := cell_blkJ (j := 6) hb3 rfl
    have HQ3 := hide ((HQ1.out.trans hq2).trans hq3)
    have HAF := hide (after_any A n c os As cs mb k o0 p w3 (HO.out.up HQ3.out) (HOB.out.up HQ3.out) hk hn8 hp hv hov)
    rw [HOZ.out] at HAF
    unfold SlV.val at HAF
    dsimp only at HAF
    rw [← HOZ.out] at HAF
    have HW3 := hide hw3
    have HC2 := hide hcp2
    have HC0 := hide hce0
    have d0 : ((0 : Int) != 0) = false := rfl
    clear hcp2 hce0 hw3 hq3 hb3 hown2 hmp hv hov hl0 hi0 hi1 h0 hq2 HBG hp
    go_wp2_with fail
    rw [HW3.out]
    go_wp2_with fail
    refine HAF.out.mono ?_
    rintro e w4 ⟨hq4, X, xn, xc, Y, yn, yc, mo, v, rfl, hcan⟩
    have HQ4 := hide (HQ3.out.trans hq4)
    clear k0 k1 k2 k3 k4 k5 k6 hq4 hcan
    go_wp2_with fail
    go_ret2
    exact ⟨by rw [HC2.out, HC0.out]; rfl, HQ4.out.alloc _⟩
theorem can_same {w w' : World} {o p : OV} (ho : ObR w o) (hp : ObR w' p) (h : SameD o p) : can o = can p := by
  obtain ⟨h1, h2, h3⟩ := h
  have e1 : o.1.n = p.1.n := by rw [← ho.b.len, ← hp.b.len, h1]
  unfold can
  rw [h1, h2, h3, e1]
theorem valid_can (o : OV) : (can o).valid = o.valid := rfl
theorem valid_same {o p : OV} (h : can o = can p) : o.valid = p.valid := by rw [← valid_can o, h, valid_can]
theorem set_can {os : List OV} {i : Nat} {o p : OV} (h : can o = can p) : (os.set i o).map can = (os.set i p).map can := by rw [List.map_set, List.map_set, h]
theorem imgR_same {os : List OV} {i : Nat} {o p : OV} (h : can o = can p) : imgR (os.set i o) = imgR (os.set i p) := by rw [← imgR_can, ← imgR_can (os := os.set i p), set_can h]
theorem namesF_can (os : List OV) : namesF (os.map can) = namesF os := by unfold namesF; rw [tabF_can]
theorem canB_same {os : List OV} {i : Nat} {o p q : OV} (h : can o = can p) : canB os i o q = canB os i p q := by
  have h9 : (can o).1.n = (can p).1.n := by rw [h]
  have e1 : o.1.n = p.1.n := h9
  have e2 : namesF (os.set i o) = namesF (os.set i p) := by rw [← namesF_can, ← namesF_can (os.set i p), set_can h]
  have e3 : missL (tabF 0 0 (os.set i o)) (os.set i o) = missL (tabF 0 0 (os.set i p)) (os.set i p) := by rw [← missL_can, ← missL_can _ (os.set i p), ← tabF_can, ← tabF_can (os.set i p), set_can h]
  unfold canB
  rw [e1, e2, e3]
theorem changeE_same {n : Nat} {os : List OV} {i : Int} {o p : OV} (h : can o = can p) : changeE n os i o = changeE n os i p := by
  unfold changeE
  rw [valid_same h]
theorem patE_same {n : Nat} {os : List OV} {i : Int} {o p : OV} {xs : List Int} (h : can o = can p) : patE n os i o xs = patE n os i p xs := by
  unfold patE
  rw [changeE_same h]
  cases os[i.toNat]? with
  | none => rfl
  | some q => dsimp only; rw [canB_same h]
theorem firstErr_valid : ∀ {os : List OV}, (∀ o ∈ os, o.valid = 0) → firstErrO os = 0
  | [], _ => rfl
  | o :: r, h => by
    unfold firstErrO
    rw [if_pos (h o (List.mem_cons_self ..))]
    exact firstErr_valid fun q hq => h q (List.mem_cons_of_mem _ hq)
theorem listed_with {os : List OV} {i : Nat} {o p : OV} (hc : canB os i o p = true) (hl : listedO os = 0) (hv : o.valid = 0) : listedO (os.set i o) = 0 := by
  obtain ⟨h8, hall⟩ := listed_zero2 hl
  unfold canB at hc
  simp only [Bool.and_eq_true] at hc
  have hd : dupB [] (namesF (os.set i o)) = false := by simpa using hc.2.1
  unfold listedO
  rw [if_neg (by rw [List.length_set]; omega), if_neg (by rw [firstErr_valid (valid_set hall hv)]; simp), if_neg (by rw [hd]; decide)]
theorem chk_full {os : List OV} {xs : List Int} (hl : listedO os = 0) (h : imgR os = some (xs.map (Value.int .u8))) : ChkR xs os xs.length 0 := by
  have e : imgE os = 0 := by unfold imgE; rw [if_neg (by simp [hl]), if_neg (by rw [h]; simp)]
  have ex : imgX os = xs.map (Value.int .u8) := by unfold imgX; rw [if_neg (by simp [hl]), h]; rfl
  exact .inr ⟨e, xs, ex, .inr (.inr ⟨rfl, rfl, rfl, fun _ _ => rfl⟩)⟩
theorem chk_diff {os : List OV} {xs : List Int} {at_ : Nat} {by_ x : Int} (hl : listedO os = 0) (h : imgR os = some (xs.map (Value.int .u8))) (hx : xs[at_]? = some x) (hne : by_ ≠ x) : ChkR (xs.set at_ by_) os at_ 8 := by
  have e : imgE os = 0 := by unfold imgE; rw [if_neg (by simp [hl]), if_neg (by rw [h]; simp)]
  have ex : imgX os = xs.map (Value.int .u8) := by unfold imgX; rw [if_neg (by simp [hl]), h]; rfl
  have hlt := (List.getElem?_eq_some_iff.1 hx).1
  refine .inr ⟨e, xs, ex, .inr (.inl ⟨by rw [List.length_set], by rw [List.length_set]; exact hlt, rfl, fun i hi => ?_, ?_⟩)⟩
  · rw [List.getElem?_set_ne (by omega)]
  · rw [List.getElem?_set, if_pos rfl, if_pos hlt, hx]
    intro h9
    injection h9 with h9
    exact hne h9
end Go.Proofs.Ytiilkiggfjpibaa
