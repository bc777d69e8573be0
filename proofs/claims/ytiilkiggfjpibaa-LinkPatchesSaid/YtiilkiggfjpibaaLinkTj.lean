/- The walk of the law LinkDecodes. Conditions: the bytes read as such. -/
import Derived.Test.YtiilkiggfjpibaaLinkTi
import Derived.Test.YtiilkiggfjpibaaLinkTf
namespace Go.Proofs.Ytiilkiggfjpibaa
open Go.RowKit LK
set_option linter.unusedVariables false
set_option linter.unusedSimpArgs false
/-- what both readers hand back -/
def Told (w : World) (bad : Bool) (D : Bs × List Sym × List Wnt) (e : Ending) (w' : World) : Prop :=
  ∃ (p : OV) (er : Nat), e = .returned (.tuple #[obV p, .int .i64 (er : Nat)]) ∧ ObR w' p ∧ Q w w' ∧ er = (if bad = true then 11 else 0) ∧ (p.1.xs, p.2.1.xs, p.2.2.xs) = (if bad = true then ([], [], []) else D) ∧ p.2.1.n ≤ 1000 ∧ p.2.2.n ≤ 1000
theorem told_of {w w' : World} {bad : Bool} {D : Bs × List Sym × List Wnt} {e : Ending} (hv : bad = false → validF D.1.length D.2.1 D.2.2 = 0) (hq : Q w w')
    (hc : (bad = true ∧ e = .returned (.tuple #[.agg #[.slice none 0 0, .slice none 0 0, .slice none 0 0], .int .i64 11])) ∨
      (bad = false ∧ ∃ vb vs vw, e = .returned (.tuple #[.agg #[vb, vs, vw], .int .i64 0]) ∧ w'.ownsRow w.heap.size 5 1 vb D.1.length (D.1.map (Value.int .u8)) ∧ w'.ownsRow w.heap.size 94 2 vs D.2.1.length (D.2.1.flatMap encSym) ∧ w'.ownsRow w.heap.size 97 3 vw D.2.2.length (D.2.2.flatMap encWnt) ∧ (In8 D.1 ∧ (∀ x ∈ D.2.1, x.1.size ≤ 255) ∧ ∀ x ∈ D.2.2, x.2.2.size ≤ 255))) : Told w bad D e w' := by
  rcases hc with ⟨hb, rfl⟩ | ⟨hb, vb, vs, vw, rfl, h0, h1, h2, hn⟩
  · refine ⟨(⟨none, 0, 0, []⟩, ⟨none, 0, 0, []⟩, ⟨none, 0, 0, []⟩), 11, rfl, ⟨Sl.nil _, Sl.nil _, Sl.nil _, fun _ => ⟨rfl, rfl⟩, fun _ => ⟨rfl, rfl⟩, fun _ => ⟨rfl, rfl⟩, fun x hx => (by cases hx), fun x hx => (by cases hx), fun x hx => (by cases hx)⟩, hq, by rw [if_pos hb], by rw [if_pos hb], Nat.zero_le _, Nat.zero_le _⟩
  · obtain ⟨a0, d0, rfl, _⟩ := own_form h0
    obtain ⟨a1, d1, rfl, _⟩ := own_form h1
    obtain ⟨a2, d2, rfl, _⟩ := own_form h2
    have hne : ¬ bad = true := by rw [hb]; exact Bool.false_ne_true
    have hO : ObR w' (⟨a0, D.1.length, d0, D.1⟩, ⟨a1, D.2.1.length, d1, D.2.1⟩, ⟨a2, D.2.2.length, d2, D.2.2⟩) := ⟨Sl.own (by rw [flat8]; exact h0) (fun _ => rfl) (by decide), Sl.own h1 (fun _ => rfl) (by decide), Sl.own h2 (fun _ => rfl) (by decide), own_nl h0, own_nl h1, own_nl h2, hn.1, fun x hx => (by have := hn.2.1 x hx; omega), fun x hx => (by have := hn.2.2 x hx; omega)⟩
    have hf := Fit.of hO (hv hb)
    have f1 := hf.s
    have f2 := hf.w
    dsimp only at f1 f2
    exact ⟨_, 0, rfl, hO, hq, by rw [if_neg hne], by rw [if_neg hne], by dsimp only; omega, by dsimp only; omega⟩
theorem told_S {w w' : World} {b : Bs} {e : Ending} (h : DecP w b e w') : Told w (decBad (decS b)) (decS b).1 e w' := by
  refine told_of (fun hb => ?_) h.1 h.2
  unfold decBad at hb
  simp only [Bool.or_eq_false_iff, Bool.not_eq_false', beq_iff_eq] at hb
  exact hb.2
theorem told_R {w w' : World} {b : Bs} {e : Ending} (h : DecPR w b e w') : Told w (decBadR b (decR b)) (decR b).1 e w' := by
  refine told_of (fun hb => ?_) h.1 h.2
  unfold decBadR at hb
  simp only [Bool.or_eq_false_iff, Bool.not_eq_false', beq_iff_eq] at hb
  exact hb.2.1
theorem told_both {w w' : World} {b : Bs} {e : Ending} (hi : In8 b) (h : DecPR w b e w') : Told w (decBad (decS b)) (decS b).1 e w' := by
  have h1 := told_R h
  obtain ⟨d1, d2⟩ := dec_same hi
  rw [← d1] at h1
  obtain ⟨p, er, h2, h3, h4, h5, h6, h7⟩ := h1
  refine ⟨p, er, h2, h3, h4, h5, h6.trans ?_, h7⟩
  cases hb : decBad (decS b) with
  | true => rfl
  | false =>
    rw [if_neg Bool.false_ne_true, if_neg Bool.false_ne_true]
    exact (d2 hb).1.symm
set_option maxRecDepth 100000 in
set_option maxHeartbeats 4000000 in
theorem LinkDecodes_true (l : SlV Int) (w : World) (hb : B8 w l) (hi : In8 l.xs) : Calls Try.prog 7 #[l.val] w fun e w' => e = .returned (.bool true) ∧ Q w w' := by
  have D1 := hide (Decode_any l w hb hi)
  have D2 := hide (fun W (h : Q w W) => rDecode_any l W (hb.up h) hi)
  have HB := hide hb
  have HIN := hide hi
  have HSAM := hide (dec_same hi)
  have hlen := hb.sl.len
  have hmost := hb.sl.most
  have HKN := hide (fun W => known_any W)
  obtain ⟨A, n, c, xs⟩ := l
  unfold SlV.val at D1 D2 ⊢
  dsimp only at D1 D2 HSAM hlen hmost hi ⊢
  clear hb
  go_enter Try.func7, Try.ntmps7
  go_wp2_with fail
  go_wp2_with fail
  · refine (HKN.out w).mono ?_
    rintro e w5 ⟨rfl, hq5⟩
    go_wp2_with fail
    go_ret
    exact ⟨rfl, hq5⟩
  · refine D1.out.mono ?_
    rintro e w1 hdp
    obtain ⟨p, er, rfl, hp, hq1, her, hpx, hpn1, hpn2⟩ := told_S hdp
    have HP := hide hp
    have HPX := hide hpx
    obtain ⟨⟨B0, m0, d0, bt⟩, ⟨B1, m1, d1, st⟩, ⟨B2, m2, d2, wt⟩⟩ := p
    unfold obV SlV.val
    dsimp only at hpn1 hpn2 HPX ⊢
    have HQ1 := hide hq1
    have HER := hide her
    have heri : (er : Int) ≤ 11 := by rw [her]; split <;> omega
    clear hdp hp hpx hq1 her
    go_wp2_with fail
    refine (D2.out _ (HQ1.out.alloc _)).mono ?_
    rintro e w3 hdp
    obtain ⟨q, er2, rfl, hq, hq3, her2, hqx, hqn1, hqn2⟩ := told_both HIN.out hdp
    obtain rfl : er2 = er := her2.trans HER.out.symm
    obtain ⟨⟨C0, k0, e0, bu⟩, ⟨C1, k1, e1, su⟩, ⟨C2, k2, e2, wu⟩⟩ := q
    dsimp only at hqx hqn1 hqn2
    have hsame := hqx.trans HPX.out.symm
    obtain ⟨rfl, rfl, rfl⟩ : bu = bt ∧ su = st ∧ wu = wt := by simpa using hsame
    unfold obV SlV.val
    dsimp only
    have hs3 : w1.heap.size < w3.heap.size := by have := hq3.size; simp at this; omega
    have c0 : w3.cell? ⟨w1.heap.size, 0, none⟩ = some (.slice B0 m0 d0) := (hq3.facts.1 w1.heap.size 0 (by simp)).trans (by simp)
    have c1 : w3.cell? ⟨w1.heap.size, 1, none⟩ = some (.slice B1 m1 d1) := (hq3.facts.1 w1.heap.size 1 (by simp)).trans (by simp)
    have c2 : w3.cell? ⟨w1.heap.size, 2, none⟩ = some (.slice B2 m2 d2) := (hq3.facts.1 w1.heap.size 2 (by simp)).trans (by simp)
    have hq13 : Q w1 w3 := ((Q.refl w1).alloc _).trans hq3
    have HP3 := hide (HP.out.up hq13)
    have HQ3 := hide (HQ1.out.trans hq13)
    have HSM := hide (fun W (h : Q w3 W) => rSame_same (⟨B0, m0, d0, bu⟩, ⟨B1, m1, d1, su⟩, ⟨B2, m2, d2, wu⟩) (⟨C0, k0, e0, bu⟩, ⟨C1, k1, e1, su⟩, ⟨C2, k2, e2, wu⟩) W (HP3.out.up h) (hq.up h) ⟨rfl, rfl, rfl⟩ hpn1 hpn2)
    have HEN := hide (fun W (h : Q w3 W) => Encode_any (⟨B0, m0, d0, bu⟩, ⟨B1, m1, d1, su⟩, ⟨B2, m2, d2, wu⟩) W (HP3.out.up h))
    unfold obV SlV.val at HSM HEN
    dsimp only at HSM HEN
    have K0 := hide c0
    have K1 := hide c1
    have K2 := hide c2
    have heq : ((er2 : Int) != (er2 : Int)) = false := by simp
    clear hdp hq hq3 her2 hqx hsame hq13 hqn1 hqn2
    go_wp2_with fail
    refine (HSM.out _ ((Q.refl w3).alloc _)).mono ?_
    rintro e w4 ⟨rfl, hq4⟩
    have HQ34 := hide (((Q.refl w3).alloc _).trans hq4)
    have c0 := (HQ34.out.facts.1 _ 0 hs3).trans K0.out
    have c1 := (HQ34.out.facts.1 _ 1 hs3).trans K1.out
    have c2 := (HQ34.out.facts.1 _ 2 hs3).trans K2.out
    have hs4 : w1.heap.size < w4.heap.size := by have := HQ34.out.size; omega
    clear hq4
    go_wp2_with fail
    refine (HEN.out _ HQ34.out).mono ?_
    rintro e w5 ⟨v, rfl, hv, hq5⟩
    have hvb : OV.valid (⟨B0, m0, d0, bu⟩, ⟨B1, m1, d1, su⟩, ⟨B2, m2, d2, wu⟩) ≤ 5 := valid_le _
    have hei := encR_in HP3.out.bok
    obtain ⟨vd, hvd⟩ : ∃ vd, OV.valid (⟨B0, m0, d0, bu⟩, ⟨B1, m1, d1, su⟩, ⟨B2, m2, d2, wu⟩) = vd := ⟨_, rfl⟩
    obtain ⟨E, hE⟩ : ∃ E, encR (⟨B0, m0, d0, bu⟩, ⟨B1, m1, d1, su⟩, ⟨B2, m2, d2, wu⟩) = E := ⟨_, rfl⟩
    rw [hE] at hv hei
    rw [hvd] at hvb
    rw [show OV.valid ({ A := B0, n := m0, c := d0, xs := bu }, { A := B1, n := m1, c := d1, xs := su }, { A := B2, n := m2, c := d2, xs := wu }) = vd from hvd]
    obtain ⟨⟨fA, fn, fc, fx⟩, rfl, hfx, hfn, hb5⟩ := B8.own hv
    dsimp only at hfx hfn
    subst hfx
    subst hfn
    unfold SlV.val
    dsimp only
    have HQ5 := hide (HQ3.out.trans (HQ34.out.trans hq5))
    have hvi : (vd : Int) ≤ 5 := by omega
    cases hbad : decBad (decS xs) with
    | true =>
      have he := HER.out
      rw [hbad, if_pos rfl] at he
      subst he
      clear hv hq5 hb5 hei hE hvd c0 c1 c2 hbad hvb
      go_wp2_with fail
      refine (HKN.out _).mono ?_
      rintro e w6 ⟨rfl, hq6⟩
      go_wp2_with fail
      go_ret
      exact ⟨rfl, HQ5.out.trans hq6⟩
    | false =>
      have he := HER.out
      have hpx := HPX.out
      rw [hbad, if_neg Bool.false_ne_true] at he hpx
      subst he
      have hD := HSAM.out.2 hbad
      have hm0 := HP3.out.b.len
      dsimp only at hm0
      have hv0 : vd = 0 := by
        rw [← hvd]
        show validF m0 su wu = 0
        unfold decBad at hbad
        simp only [Bool.or_eq_false_iff, Bool.not_eq_false', beq_iff_eq] at hbad
        rw [← hbad.2, ← hpx, ← hm0]
      have hfb : fx = xs := by
        rw [← hE]
        unfold encR
        rw [if_pos (hvd.trans hv0)]
        have := hD.2
        rw [← hpx] at this
        exact this
      subst hv0
      subst hfb
      have cv1 := conv_sl Try.underlying30 Try.underlying5 Try.underlying9 hb5.sl HIN.out
      have cv2 := conv_sl Try.underlying30 Try.underlying5 Try.underlying9 (HB.out.up HQ5.out).sl HIN.out
      dsimp only at cv1 cv2
      rw [hlen] at cv1
      have tt : ((strI fx).toList == (strI fx).toList) = true := by simp
      clear hv hq5 hb5 hei hE hvd c0 c1 c2 hbad hvb hD hm0 hpx
      go_wp2_with fail
      go_simp
      go_wp2_with fail
      go_simp
      go_wp2_with fail
      refine (HKN.out _).mono ?_
      rintro e w6 ⟨rfl, hq6⟩
      go_wp2_with fail
      go_ret
      exact ⟨rfl, HQ5.out.trans hq6⟩
end Go.Proofs.Ytiilkiggfjpibaa
