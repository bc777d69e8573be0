/- The walk of the law LinkObjects. Conditions: the object reads as one. -/
import Derived.Test.YtiilkiggfjpibaaLinkU8
import Derived.Test.YtiilkiggfjpibaaLinkU7
namespace Go.Proofs.Ytiilkiggfjpibaa
open Go.RowKit LK
set_option linter.unusedVariables false
set_option linter.unusedSimpArgs false
theorem obs_single {w : World} {g : Nat} {o : OV} (hg : w.heap[g]? = some (.cells #[o.1.val, o.2.1.val, o.2.2.val] 34 (0, 0))) (hO : ObR w o) : ObsR w (some ⟨g, 0, none⟩) 1 1 [o] :=
  ⟨⟨rd_blk hg rfl, rfl, Nat.le_refl _, by decide⟩, fun e => (by cases e), fun p hp => by rw [List.mem_singleton.1 hp]; exact hO⟩
/-- Decode, told by rows -/
theorem dec_told {w w' : World} {b : Bs} {e : Ending} (h : DecP w b e w') (hi : In8 b) : ∃ (p : OV) (er : Nat), e = .returned (.tuple #[obV p, .int .i64 (er : Nat)]) ∧ ObR w' p ∧ Q w w' ∧
    ((decBad (decS b) = true ∧ er = 11 ∧ can p = can (⟨none, 0, 0, []⟩, ⟨none, 0, 0, []⟩, ⟨none, 0, 0, []⟩)) ∨ (decBad (decS b) = false ∧ er = 0 ∧ p.1.n = p.1.xs.length ∧ p.1.xs = (decS b).1.1 ∧ p.2.1.xs = (decS b).1.2.1 ∧ p.2.2.xs = (decS b).1.2.2)) := by
  obtain ⟨hq, hc⟩ := h
  rcases hc with ⟨hb, rfl⟩ | ⟨hb, vb, vs, vw, rfl, h0, h1, h2, hn⟩
  · refine ⟨(⟨none, 0, 0, []⟩, ⟨none, 0, 0, []⟩, ⟨none, 0, 0, []⟩), 11, rfl, ⟨Sl.nil _, Sl.nil _, Sl.nil _, fun _ => ⟨rfl, rfl⟩, fun _ => ⟨rfl, rfl⟩, fun _ => ⟨rfl, rfl⟩, fun x hx => (by cases hx), fun x hx => (by cases hx), fun x hx => (by cases hx)⟩, hq, .inl ⟨hb, rfl, rfl⟩⟩
  · have nl : ∀ {B e s n c : Nat} {A : Option Addr} {xs : List Value}, w'.ownsRow B e s (.slice A n c) n xs → A = none → n = 0 ∧ c = 0 := fun {B e s n c A xs} h hA => by
      rcases h.2 with ⟨e0, _⟩ | ⟨g, cap, cur, e0, _⟩
      · injection e0 with _ a b; exact ⟨a, b⟩
      · rw [hA] at e0; cases e0
    obtain ⟨a0, d0, rfl, _⟩ := own_form h0
    obtain ⟨a1, d1, rfl, _⟩ := own_form h1
    obtain ⟨a2, d2, rfl, _⟩ := own_form h2
    refine ⟨(⟨a0, _, d0, (decS b).1.1⟩, ⟨a1, _, d1, (decS b).1.2.1⟩, ⟨a2, _, d2, (decS b).1.2.2⟩), 0, rfl, ⟨Sl.own (by rw [flat8]; exact h0) (fun _ => rfl) (by decide), Sl.own h1 (fun _ => rfl) (by decide), Sl.own h2 (fun _ => rfl) (by decide), nl h0, nl h1, nl h2, hn.1, fun x hx => ?_, fun x hx => ?_⟩, hq, .inr ⟨hb, rfl, rfl, rfl, rfl, rfl⟩⟩
    · have := hn.2.1 x hx; omega
    · have := hn.2.2 x hx; omega
set_option maxRecDepth 100000 in
set_option maxHeartbeats 4000000 in
theorem LinkObjects_true (o : OV) (w : World) (hO : ObR w o) : Calls Try.prog 6 #[obV o] w fun e w' => e = .returned (.bool true) ∧ Q w w' := by
  have HLn := hide (fun W g h h2 => Long_any (some ⟨g, 0, none⟩) 1 1 [o] W (obs_single (o := o) h h2) (by decide))
  have C1 := hide (fun W (h : Q w W) => Encode_any o W (hO.up h))
  have C2 := hide (fun W (h : Q w W) => rEncode_any o W (hO.up h))
  have HV1 := hide (fun W (h : Q w W) => Validate_any o.1.A o.1.n o.1.c o.2.1.A o.2.1.n o.2.1.c o.2.1.xs o.2.2.A o.2.2.n o.2.2.c o.2.2.xs W (hO.up h).s (hO.up h).t hO.sok hO.tok)
  have HV2 := hide (fun W (h : Q w W) => rValidate_any o.1.A o.1.n o.1.c o.2.1.A o.2.1.n o.2.1.c o.2.1.xs o.2.2.A o.2.2.n o.2.2.c o.2.2.xs W (hO.up h).s (hO.up h).t hO.sok hO.tok)
  have HEB := hide (encR_in hO.bok)
  have HGD := hide (enc_good hO)
  obtain ⟨E, hE⟩ : ∃ E, encR o = E := ⟨_, rfl⟩
  have HO := hide hO
  have hon := one_any o.1.A o.2.1.A o.2.2.A o.1.n o.1.c o.2.1.n o.2.1.c o.2.2.n o.2.2.c
  have HON := hide hon
  obtain ⟨⟨A0, n0, c0, bs⟩, ⟨A1, n1, c1, ss⟩, ⟨A2, n2, c2, ws⟩⟩ := o
  obtain ⟨vd, hvd⟩ : ∃ vd, OV.valid (⟨A0, n0, c0, bs⟩, ⟨A1, n1, c1, ss⟩, ⟨A2, n2, c2, ws⟩) = vd := ⟨_, rfl⟩
  have hvd2 : validF n0 ss ws = vd := hvd
  have hvl := valid_le (⟨A0, n0, c0, bs⟩, ⟨A1, n1, c1, ss⟩, ⟨A2, n2, c2, ws⟩)
  rw [hE] at HEB HGD C1 C2
  rw [hvd] at C1 C2 HGD hvl
  unfold obV SlV.val at C1 C2
  unfold SlV.val at HLn
  dsimp only at HON HV1 HV2 C1 C2 HGD HLn
  rw [hvd2] at HV1 HV2
  unfold obV SlV.val
  dsimp only
  obtain ⟨w2, hw2⟩ : ∃ w2, w.alloc (.cells #[.slice A0 n0 c0, .slice A1 n1 c1, .slice A2 n2 c2] 34) = w2 := ⟨_, rfl⟩
  have hq2 : Q w w2 := by rw [← hw2]; exact (Q.refl w).alloc _
  have hs2 : w.heap.size < w2.heap.size := by rw [← hw2]; simp
  have k0 : w2.cell? ⟨w.heap.size, 0, none⟩ = some (.slice A0 n0 c0) := by rw [← hw2]; simp
  have k1 : w2.cell? ⟨w.heap.size, 1, none⟩ = some (.slice A1 n1 c1) := by rw [← hw2]; simp
  have k2 : w2.cell? ⟨w.heap.size, 2, none⟩ = some (.slice A2 n2 c2) := by rw [← hw2]; simp
  have K0 := hide k0
  have K1 := hide k1
  have K2 := hide k2
  have HE := hide hE
  have HW2 := hide hw2
  have HQ2 := hide hq2
  clear hw2 hq2
  have hvi : (vd : Int) ≤ 5 := by omega
  have t1 : ((vd : Int) != (vd : Int)) = false := by simp
  have HVD := hide hvd
  clear hO hon hvd hvd2 hE
  go_enter Try.func6, Try.ntmps6
  go_wp2_with fail
  rw [HW2.out]
  go_wp2_with fail
  refine (HON.out w2).mono ?_
  rintro e w3 ⟨g, rfl, hg, hgs, hq3⟩
  have HL3 := hide (HLn.out w3 g hg ((HO.out.up HQ2.out).up hq3))
  have HQ3 := hide (HQ2.out.trans hq3)
  have HQ23 := hide hq3
  clear hg hq3 k0 k1 k2
  go_wp2_with fail
  refine HL3.out.mono ?_
  rintro e w4 ⟨rfl, hq4⟩
  have HQ4 := hide (HQ3.out.trans hq4)
  have HQ24 := hide (HQ23.out.trans hq4)
  clear hq4
  cases hlb : longB [((⟨A0, n0, c0, bs⟩, ⟨A1, n1, c1, ss⟩, ⟨A2, n2, c2, ws⟩) : OV)] with
  | true =>
    go_wp2_with fail
    refine (known_any w4).mono ?_
    rintro e w5 ⟨rfl, hq5⟩
    go_wp2_with fail
    go_ret
    exact ⟨rfl, HQ4.out.trans hq5⟩
  | false =>
    have HLB := hide hlb
    have k0 := (HQ24.out.facts.1 _ 0 hs2).trans K0.out
    have k1 := (HQ24.out.facts.1 _ 1 hs2).trans K1.out
    have k2 := (HQ24.out.facts.1 _ 2 hs2).trans K2.out
    have hs4 : w.heap.size < w4.heap.size := by have := HQ4.out.size; have := HQ24.out.size; omega
    clear hlb
    go_wp2_with fail
    refine (C1.out w4 HQ4.out).mono ?_
    rintro e w5 ⟨v5, rfl, hv5, hq5⟩
    have HV5 := hide hv5
    have HQ5 := hide (HQ4.out.trans hq5)
    have HQ25 := hide (HQ24.out.trans hq5)
    have k0 := (HQ25.out.facts.1 _ 0 hs2).trans K0.out
    have k1 := (HQ25.out.facts.1 _ 1 hs2).trans K1.out
    have k2 := (HQ25.out.facts.1 _ 2 hs2).trans K2.out
    have hs5 : w.heap.size < w5.heap.size := by have := HQ25.out.size; omega
    clear hv5 hq5
    go_wp2_with fail
    refine (C2.out w5 HQ5.out).mono ?_
    rintro e w6 ⟨v6, rfl, hv6, hq6⟩
    obtain ⟨l5, rfl, hx5, hn5, hb5⟩ := B8.own (own_q HV5.out hq6)
    obtain ⟨l6, rfl, hx6, hn6, hb6⟩ := B8.own hv6
    have HQ6 := hide (HQ5.out.trans hq6)
    have HQ26 := hide (HQ25.out.trans hq6)
    have k0 := (HQ26.out.facts.1 _ 0 hs2).trans K0.out
    have k1 := (HQ26.out.facts.1 _ 1 hs2).trans K1.out
    have k2 := (HQ26.out.facts.1 _ 2 hs2).trans K2.out
    have hs6 : w.heap.size < w6.heap.size := by have := HQ26.out.size; omega
    have hi5 : In8 l5.xs := by rw [hx5]; exact HEB.out
    have hi6 : In8 l6.xs := by rw [hx6]; exact HEB.out
    have cv1 := fun k => conv_sl Try.underlying30 Try.underlying5 Try.underlying9 (hb5.up (q_ext w6 k)).sl hi5
    have cv2 := fun k => conv_sl Try.underlying30 Try.underlying5 Try.underlying9 (hb6.up (q_ext w6 k)).sl hi6
    have hbx : strI l6.xs = strI l5.xs := by rw [hx5, hx6]
    rw [hbx] at cv2
    have HB5 := hide hb5
    have HX5 := hide hx5
    obtain ⟨l5A, l5n, l5c, l5x⟩ := l5
    obtain ⟨l6A, l6n, l6c, l6x⟩ := l6
    dsimp only at cv1 cv2 HX5
    unfold SlV.val
    dsimp only
    have tt : ((strI l5x).toList == (strI l5x).toList) = true := by simp
    clear hv6 hq6 hb5 hb6 hx5 hx6 hn5 hn6 hi5 hi6 hbx
    go_wp2_with fail
    have hxc := ext_cell
    refine wp_region_ext (by kernel_rfl) (by kernel_rfl) ?_
    repeat (go_big_quiet_step (((first | (go_at_call 31; exact ext_call (HV1.out _ (HQ6.out.trans (q_ext _ _)))) | (go_at_call 32; exact ext_call (HV2.out _ (HQ6.out.trans (q_ext _ _))))))))
    clear hxc
    refine wpQuiet_nil ?_
    intro w7 hww7
    have hqw7 := q_of_ext hww7
    clear hww7
    obtain ⟨hcw7, hfw7, hzw7⟩ := hqw7.facts
    try simp at hzw7
    try have hs0w7 : w.heap.size < w7.heap.size := by omega
    try have hs1w7 : w.heap.size + 1 < w7.heap.size := by omega
    have HQ7 := hide (HQ6.out.trans hqw7)
    have HQ27 := hide (HQ26.out.trans hqw7)
    have hi5 : In8 l5x := by rw [HX5.out]; exact HEB.out
    have HDC := hide (Decode_any ⟨l5A, l5n, l5c, l5x⟩ w7 (HB5.out.up hqw7) hi5)
    rw [HX5.out] at HDC
    unfold SlV.val at HDC
    dsimp only at HDC
    clear hcw7 hfw7 cv1 cv2 tt t1 k0 k1 k2 hqw7 hi5
    go_wp2_with fail
    refine HDC.out.mono ?_
    rintro e w8 hdp
    obtain ⟨p, er, rfl, hp, hq8, hcase⟩ := dec_told hdp HEB.out
    obtain ⟨⟨B0, m0, d0, bt⟩, ⟨B1, m1, d1, st⟩, ⟨B2, m2, d2, wt⟩⟩ := p
    unfold obV SlV.val
    dsimp only
    have HQ8 := hide (HQ7.out.trans hq8)
    have HQ28 := hide (HQ27.out.trans hq8)
    have HPP := hide hp
    rcases Nat.eq_zero_or_pos vd with hv0 | hv0
    · have hd : ((vd : Int) != 0) = false := by rw [hv0]; rfl
      obtain ⟨hg1, hg2⟩ := HGD.out hv0
      rcases hcase with ⟨hb, _⟩ | ⟨hb, her, h1, h2, h3, h4⟩
      · rw [hg1] at hb; cases hb
      · dsimp only at h1 h2 h3 h4
        rw [hg2] at h2 h3 h4
        dsimp only at h2 h3 h4
        subst h2
        subst h3
        subst h4
        subst her
        have hs8 : w.heap.size < w8.heap.size := by have := HQ28.out.size; omega
        have k0 := (HQ28.out.facts.1 _ 0 hs2).trans K0.out
        have k1 := (HQ28.out.facts.1 _ 1 hs2).trans K1.out
        have k2 := (HQ28.out.facts.1 _ 2 hs2).trans K2.out
        have hfit := Fit.of HO.out (show OV.valid (⟨A0, n0, c0, bt⟩, ⟨A1, n1, c1, st⟩, ⟨A2, n2, c2, wt⟩) = 0 from hv0 ▸ HVD.out)
        have hps := HPP.out.s.len
        have hpt := HPP.out.t.len
        have f1 := hfit.s
        have f2 := hfit.w
        dsimp only at hps hpt f1 f2
        have HSM := hide (fun W (h : Q w8 W) => rSame_same (⟨B0, m0, d0, bt⟩, ⟨B1, m1, d1, st⟩, ⟨B2, m2, d2, wt⟩) (⟨A0, n0, c0, bt⟩, ⟨A1, n1, c1, st⟩, ⟨A2, n2, c2, wt⟩) W (HPP.out.up h) ((HO.out.up HQ8.out).up h) ⟨rfl, rfl, rfl⟩ (by dsimp only; omega) (by dsimp only; omega))
        unfold obV SlV.val at HSM
        dsimp only at HSM
        have HKN := hide (fun W => known_any W)
        clear hdp hp hq8 hg1 hg2 hb h1 hv0 hfit hps hpt f1 f2
        go_wp2_with fail
        refine (HSM.out _ ((Q.refl w8).alloc _)).mono ?_
        rintro e w9 ⟨rfl, hq9⟩
        go_wp2_with fail
        refine (HKN.out w9).mono ?_
        rintro e w10 ⟨rfl, hq10⟩
        go_wp2_with fail
        go_ret
        exact ⟨rfl, ((HQ8.out.alloc _).trans hq9).trans hq10⟩
    · have hd : ((vd : Int) != 0) = true := by simp; omega
      have HKN := hide (fun W => known_any W)
      have heri : (er : Int) ≤ 11 := by rcases hcase with ⟨_, h, _⟩ | ⟨_, h, _⟩ <;> omega
      clear hdp hp hq8 hcase hv0
      go_wp2_with fail
      refine (HKN.out _).mono ?_
      rintro e w10 ⟨rfl, hq10⟩
      go_wp2_with fail
      go_ret
      exact ⟨rfl, (HQ8.out.alloc _).trans hq10⟩
end Go.Proofs.Ytiilkiggfjpibaa
