/- Objects with the same data have the same image; the walk of the reference's Image. Conditions: as each theorem says. -/
import Derived.Test.YtjdioilkhbpmoaaLinkRe
namespace Go.Proofs.Ytjdioilkhbpmoaa
open Go.RowKit LK
set_option linter.unusedVariables false
def can (o : OV) : OV := (⟨none, o.1.n, 0, o.1.xs⟩, ⟨none, 0, 0, o.2.1.xs⟩, ⟨none, 0, 0, o.2.2.xs⟩)
theorem firstErr_can : ∀ os : List OV, firstErrO (os.map can) = firstErrO os
  | [] => rfl
  | o :: r => by
    show firstErrO (can o :: r.map can) = _
    unfold firstErrO
    rw [firstErr_can r]
    rfl
theorem tabF_can : ∀ (os : List OV) (k a : Nat), tabF k a (os.map can) = tabF k a os
  | [], k, a => rfl
  | o :: r, k, a => by
    show tabF k a (can o :: r.map can) = _
    unfold tabF
    rw [tabF_can r]
    rfl
theorem listed_can (os : List OV) : listedO (os.map can) = listedO os := by
  unfold listedO namesF
  rw [List.length_map, firstErr_can, tabF_can]
theorem missL_can (T : Tab) (os : List OV) : missL T (os.map can) = missL T os := by
  unfold missL
  rw [List.flatMap_map]
  rfl
theorem missR_can (os : List OV) : missR (os.map can) = missR os := by
  unfold missR
  rw [listed_can, tabF_can, missL_can]
theorem imgF_can (T : Tab) : ∀ (os : List OV) (a : Nat) (L : List Value), imgF T a (os.map can) L = imgF T a os L
  | [], a, L => rfl
  | o :: r, a, L => by
    show imgF T a (can o :: r.map can) L = _
    unfold imgF
    have e : imgStep T a (can o) L = imgStep T a o L := rfl
    rw [e]
    split
    · rfl
    · exact imgF_can T r _ _
theorem imgR_can (os : List OV) : imgR (os.map can) = imgR os := by
  unfold imgR
  rw [tabF_can, imgF_can]
theorem same_of_can {o p : OV} (h : can o = can p) : SameD o p := by
  unfold can at h
  simp only [Prod.mk.injEq, SlV.mk.injEq, true_and] at h
  exact ⟨h.1.2, h.2.1, h.2.2⟩
set_option maxRecDepth 100000 in
set_option maxHeartbeats 4000000 in
theorem rImage_any (A : Option Addr) (n c : Nat) (os : List OV) (w : World) (hO : ObsR w A n c os) : Calls Try.prog 31 #[.slice A n c] w (ImageP w os) := by
  have hl := hO.sl.len
  have HP := hide (rlisted_any A n c os w hO)
  have HL := hide hl
  have HO := hide hO
  clear hO
  by_cases h0 : listedO os = 0
  · obtain ⟨h8, hval⟩ := listed_zero2 h0
    have HS := hide (fun W hQ => rmissing_any A n c os W (HO.out.up hQ) (by omega) hval)
    have HI := hide (fun W hQ hm => rimage_any A n c os W (HO.out.up hQ) (by omega) hval hm)
    have hml := putT_nil (l := missL (tabF 0 0 os) os)
    have hpl := putT_len (missL (tabF 0 0 os) os)
    have hmll := missL_len (tabF 0 0 os) os (fun o ho => wants_le (hval o ho))
    rw [h0] at HP
    have E0 := hide h0
    have HML := hide hml
    obtain ⟨P, hP⟩ : ∃ P, putT (missL (tabF 0 0 os) os) = P := ⟨_, rfl⟩
    have hPl : P.length ≤ 128 := by rw [← hP]; omega
    rw [hP] at HS HML
    clear h0 hval hl hml hpl hmll
    go_enter Try.func31, Try.ntmps31
    go_wp2_with fail
    refine HP.out.mono ?_
    rintro e w1 ⟨rfl, hq1⟩
    go_wp2_with fail
    refine (HS.out _ hq1).mono ?_
    rintro e w2 ⟨v2, rfl, hown2, hq2⟩
    obtain ⟨A2, c2, rfl, _⟩ := own_form hown2
    have HQ2 := hide (hq1.trans hq2)
    clear hown2
    rcases Nat.eq_zero_or_pos P.length with hz | hz
    · have hd : decide ((0 : Int) < (P.length : Int)) = false := by rw [hz]; rfl
      have hd2 : decide (0 < P.length) = false := by rw [hz]; rfl
      have hnm := missL_nil.1 (HML.out.1 (List.eq_nil_of_length_eq_zero hz))
      have HNM := hide hnm
      clear hnm hz
      go_wp2_with fail
      refine (HI.out w2 HQ2.out HNM.out).mono ?_
      rintro e w3 ⟨v3, rfl, hown3, hq3⟩
      have H3 := hide hown3
      clear hown3
      go_wp2_with fail
      go_ret2
      exact ⟨HQ2.out.trans hq3, .inr ⟨E0.out, .inr ⟨_, v3, _, by unfold imgR; exact imgF_total HNM.out, rfl, own_lower H3.out HQ2.out.size⟩⟩⟩
    · have hd : decide ((0 : Int) < (P.length : Int)) = true := decide_eq_true (by omega)
      have hd2 : decide (0 < P.length) = true := decide_eq_true hz
      have hne : missL (tabF 0 0 os) os ≠ [] := fun e => by have := HML.out.2 e; rw [this] at hz; simp at hz
      have HNE := hide hne
      clear hne hz
      go_wp2_with fail
      go_ret2
      exact ⟨HQ2.out, .inr ⟨E0.out, .inl ⟨by unfold imgR; exact imgF_none_iff.2 HNE.out, rfl⟩⟩⟩
  · have dz : ((listedO os : Int) != 0) = true := by simp; omega
    have HNE := hide h0
    clear h0 hl
    go_enter Try.func31, Try.ntmps31
    go_wp2_with fail
    refine HP.out.mono ?_
    rintro e w1 ⟨rfl, hq1⟩
    go_wp2_with fail
    go_ret2
    exact ⟨hq1, .inl ⟨HNE.out, rfl⟩⟩
end Go.Proofs.Ytjdioilkhbpmoaa
