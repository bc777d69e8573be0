/- The walk of the reference's Patch. Conditions: the memory reads as bytes, the objects read as such. -/
import Derived.Test.YtiilkiggfjpibaaLinkVp
namespace Go.Proofs.Ytiilkiggfjpibaa
open Go.RowKit LK
set_option linter.unusedVariables false
set_option linter.unusedSimpArgs false
theorem can_img {os : List OV} {i : Nat} {o p : OV} (h : canB os i o p = true) : noneMiss (tabF 0 0 (os.set i o)) (os.set i o) ∧ imgR (os.set i o) = some (imgT (tabF 0 0 (os.set i o)) 0 (os.set i o) []) := by
  unfold canB at h
  simp only [Bool.and_eq_true] at h
  have h2 : missL (tabF 0 0 (os.set i o)) (os.set i o) = [] := putT_nil.1 (List.isEmpty_iff.1 h.2.2)
  have h3 := missL_nil.1 h2
  exact ⟨h3, imgF_total h3⟩
set_option maxRecDepth 100000 in
set_option maxHeartbeats 4000000 in
theorem rPatch_any (l : SlV Int) (A : Option Addr) (n c : Nat) (os : List OV) (i : Int) (o : OV) (w : World) (hb : B8 w l) (hbi : In8 l.xs) (hO : ObsR w A n c os) (ho : ObR w o) : Calls Try.prog 40 #[l.val, .slice A n c, .int .i64 i, obV o] w (PatP w l.xs n os i o) := by
  have HB := hide hb
  have HBI := hide hbi
  have HO := hide hO
  have HOB := hide ho
  have hl := hO.sl.len
  obtain ⟨xs, hxs⟩ : ∃ xs, l.xs = xs := ⟨_, rfl⟩
  rw [hxs] at HBI
  rw [hxs]
  have HXS := hide hxs
  obtain ⟨o0, ho0⟩ : ∃ o0, o0 = o := ⟨_, rfl⟩
  obtain ⟨lA, ln, lc, lx⟩ := l
  have HCH := hide (fun W (h : Q w W) => changing_any A n c os i o W (hO.up h) (ho.up h))
  have HCA := hide (fun W (h : Q w W) (k : Nat) (p : OV) (h1 : k < n) (h2 : n ≤ 8) (h3 : os[k]? = some p) (h4 : ∀ p ∈ os, p.valid = 0) (h5 : o.valid = 0) => can_any A n c os k o p W (hO.up h) (ho.up h) h1 h2 h3 h4 h5)
  have HWI := hide (fun W (h : Q w W) (k : Nat) (h1 : k < n) (h2 : n ≤ 8) => With_any A n c os k o W (hO.up h) h1 h2)
  rw [← ho0] at HCH HCA HWI HOB
  obtain ⟨⟨A0, n0, c0, bs⟩, ⟨A1, n1, c1, ss⟩, ⟨A2, n2, c2, ws⟩⟩ := o
  obtain ⟨w1, hw1⟩ : ∃ w1, w.alloc (.cells #[.slice A0 n0 c0, .slice A1 n1 c1, .slice A2 n2 c2] 34) = w1 := ⟨_, rfl⟩
  have hq1 : Q w w1 := by rw [← hw1]; exact (Q.refl w).alloc _
  have hs1 : w.heap.size < w1.heap.size := by rw [← hw1]; simp
  have k0 : w1.cell? ⟨w.heap.size, 0, none⟩ = some (.slice A0 n0 c0) := by rw [← hw1]; simp
  have k1 : w1.cell? ⟨w.heap.size, 1, none⟩ = some (.slice A1 n1 c1) := by rw [← hw1]; simp
  have k2 : w1.cell? ⟨w.heap.size, 2, none⟩ = some (.slice A2 n2 c2) := by rw [← hw1]; simp
  unfold PatP
  rw [← ho0]
  have HOZ := hide ho0
  obtain ⟨pe, hpe⟩ : ∃ pe, patE n os i o0 xs = pe := ⟨_, rfl⟩
  rw [hpe]
  have HPE := hide hpe
  have HQ1 := hide hq1
  have HW1 := hide hw1
  have HLL := hide hl
  have HK0 := hide k0
  have HK1 := hide k1
  have HK2 := hide k2
  obtain ⟨ce, hce⟩ : ∃ ce, changeE n os i o0 = ce := ⟨_, rfl⟩
  rw [hce] at HCH
  have HCE := hide hce
  have eO : ∀ x : OV, obV x = .agg #[x.1.val, x.2.1.val, x.2.2.val] := fun _ => rfl
  have hov : obV o0 = .agg #[.slice A0 n0 c0, .slice A1 n1 c1, .slice A2 n2 c2] := by rw [ho0]; rfl
  rw [hov]
  simp only [hov] at HCH HCA HWI
  unfold SlV.val
  dsimp only
  clear hb hbi hO ho hl hxs hpe hq1 hw1 ho0 hce eO hov
  go_enter Try.func40, Try.ntmps40
  go_wp2_with fail
  rw [HW1.out]
  clear k0 k1 k2
  refine (HCH.out w1 HQ1.out).mono ?_
  rintro e w2 ⟨rfl, hq2⟩
  have HQ2 := hide (HQ1.out.trans hq2)
  rcases Nat.eq_zero_or_pos ce with hc0 | hc0
  · have d1 : ((ce : Int) != 0) = false := by rw [hc0]; rfl
    obtain ⟨hl0, hi0, hi1, hov⟩ := change_ok (HCE.out.trans hc0)
    obtain ⟨k, rfl⟩ : ∃ k : Nat, i = (k : Int) := ⟨i.toNat, by omega⟩
    have hk : k < n := by omega
    obtain ⟨h8, hv⟩ := listed_zero2 hl0
    have hn8 : n ≤ 8 := by have := HLL.out; omega
    obtain ⟨p, hp⟩ : ∃ p, os[k]? = some p := ⟨_, List.getElem?_eq_getElem (by have := HLL.out; omega)⟩
    have hpe2 : pe = if canB os k o0 p = true then (if imgI os = some xs then 0 else 10) else 7 := by
      rw [← HPE.out]
      unfold patE
      rw [if_neg (by simp [HCE.out, hc0]), Int.toNat_natCast, hp]
    obtain ⟨cb, hcb⟩ : ∃ cb, canB os k o0 p = cb := ⟨_, rfl⟩
    have HCX := hide (HCA.out w2 HQ2.out k p hk hn8 hp hv hov)
    rw [hcb] at HCX
    have HPE2 := hide hpe2
    have HCB := hide hcb
    have HV := hide hv
    have HOV := hide hov
    have HKK := hide hk
    have HN8 := hide hn8
    have HL0 := hide hl0
    have k0 := (hq2.facts.1 _ 0 hs1).trans HK0.out
    have k1 := (hq2.facts.1 _ 1 hs1).trans HK1.out
    have k2 := (hq2.facts.1 _ 2 hs1).trans HK2.out
    have HQ12 := hide hq2
    clear hc0 hl0 hi0 hi1 hov h8 hv hp hpe2 hcb hk hn8 HCA hq2
    go_wp2_with fail
    refine HCX.out.mono ?_
    rintro e w3 ⟨rfl, hq3⟩
    have HQ3 := hide (HQ2.out.trans hq3)
    have HQ13 := hide (HQ12.out.trans hq3)
    clear k0 k1 k2 hq3
    cases cb with
    | false =>
      have HP7 := hide (show pe = 7 by rw [HPE2.out, HCB.out]; rfl)
      go_wp2_with fail
      go_ret2
      exact ⟨HQ3.out, _, by rw [HP7.out]; rfl, .inl ⟨by rw [HP7.out]; decide, rfl⟩⟩
    | true =>
      have HP8 := hide (show pe = if imgI os = some xs then 0 else 10 by rw [HPE2.out, HCB.out]; rfl)
      have HCI := hide (can_img HCB.out)
      have HIM := hide (rImage_any A n c os w3 (HO.out.up HQ3.out))
      clear HPE2
      go_wp2_with fail
      refine HIM.out.mono ?_
      rintro e w4 ⟨hq4, hcase⟩
      have HQ4 := hide (HQ3.out.trans hq4)
      have HQ14 := hide (HQ13.out.trans hq4)
      rcases hcase with ⟨hne, -⟩ | ⟨-, hcase⟩
      · exact absurd HL0.out hne
      rcases hcase with ⟨hnn, rfl⟩ | ⟨L, v, N, hsm, rfl, hown⟩
      · have HPX := hide (show pe = 10 by rw [HP8.out, if_neg (by rw [imgI_none hnn]; simp)])
        clear hnn hq4
        go_wp2_with fail
        go_ret2
        exact ⟨HQ4.out, _, by rw [HPX.out]; rfl, .inl ⟨by rw [HPX.out]; decide, rfl⟩⟩
      · have hByt : Byt L := Byt.img (fun q hq => (HO.out.all q hq).bok) ⟨[], rfl, fun x hx => by cases hx⟩ (show imgF (tabF 0 0 os) 0 os [] = some L from hsm)
        obtain ⟨ys, rfl, hin⟩ := hByt
        have hN : N = ys.length := by have := hown.1; simp at this; omega
        subst hN
        obtain ⟨E6, c6, rfl, hs6⟩ := sl_own8 hown
        have cv1 := conv_sl Try.underlying30 Try.underlying5 Try.underlying9 hs6 hin
        have cv2 := conv_sl Try.underlying30 Try.underlying5 Try.underlying9 (HB.out.up HQ4.out).sl (by rw [HXS.out]; exact HBI.out)
        rw [HXS.out] at cv2
        have btt := bl_strI hin HBI.out
        have HIMG := hide hsm
        try dsimp only at cv1 cv2
        clear hq4 hown hs6 hin hsm
        by_cases hyx : ys = xs
        · have tt : ((strI ys).toList == (strI xs).toList) = true := btt.2 hyx
          have HPZ := hide (show pe = 0 by rw [HP8.out, if_pos (by rw [imgI_some HIMG.out, hyx])])
          have HWX := hide (HWI.out w4 HQ4.out k HKK.out HN8.out)
          have k0 := (HQ14.out.facts.1 _ 0 hs1).trans HK0.out
          have k1 := (HQ14.out.facts.1 _ 1 hs1).trans HK1.out
          have k2 := (HQ14.out.facts.1 _ 2 hs1).trans HK2.out
          clear btt hyx
          go_wp2_with fail
          refine HWX.out.mono ?_
          rintro e w5 ⟨v5, rfl, hown5, hq5⟩
          obtain ⟨V, cv, rfl, -⟩ := own_form hown5
          have HQ5 := hide (HQ4.out.trans hq5)
          have HOBS := hide (obs_with hown5 (HO.out.up HQ5.out) (HOB.out.up HQ5.out))
          have HRI := hide (rimage_any V n cv (os.set k o0) w5 HOBS.out HN8.out (valid_set HV.out HOV.out) HCI.out.1)
          clear hq5 hown5 k0 k1 k2 cv1 cv2 tt
          go_wp2_with fail
          refine HRI.out.mono ?_
          rintro e w6 ⟨v6, rfl, hown6, hq6⟩
          have HO6 := hide hown6
          have HQ6 := hide (HQ5.out.trans hq6)
          have HS5 := hide HQ5.out.size
          clear hown6 hq6
          go_wp2_with fail
          go_ret2
          exact ⟨HQ6.out, _, by rw [HPZ.out]; rfl, .inr ⟨HPZ.out, _, _, by rw [Int.toNat_natCast]; exact HCI.out.2, own_base2 HO6.out HS5.out⟩⟩
        · have tt : ((strI ys).toList == (strI xs).toList) = false := by
            cases hc : ((strI ys).toList == (strI xs).toList) with
            | true => exact absurd (btt.1 hc) hyx
            | false => rfl
          have HPX := hide (show pe = 10 by rw [HP8.out, if_neg (by rw [imgI_some HIMG.out]; intro h; injection h with h; exact hyx h)])
          clear btt hyx
          go_wp2_with fail
          go_ret2
          exact ⟨HQ4.out, _, by rw [HPX.out]; rfl, .inl ⟨by rw [HPX.out]; decide, rfl⟩⟩
  · have d1 : ((ce : Int) != 0) = true := by simp; omega
    have hpce : pe = ce := by rw [← HPE.out]; unfold patE; rw [HCE.out, if_pos (by omega)]
    have HPC := hide hpce
    have HNE := hide (show ce ≠ 0 by omega)
    have HQ2' := hide hq2
    clear hc0 hpce hq2
    go_wp2_with fail
    go_ret2
    exact ⟨HQ2.out, _, by rw [HPC.out]; rfl, .inl ⟨by rw [HPC.out]; exact HNE.out, rfl⟩⟩
end Go.Proofs.Ytiilkiggfjpibaa
