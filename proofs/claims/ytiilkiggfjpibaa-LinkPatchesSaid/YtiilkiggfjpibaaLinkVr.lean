/- The law LinkImposes: its walk. Conditions: the memory reads as bytes, the objects read as such. -/
import Derived.Test.YtiilkiggfjpibaaLinkVq
import Derived.Test.YtiilkiggfjpibaaLinkU2
namespace Go.Proofs.Ytiilkiggfjpibaa
open Go.RowKit LK
set_option linter.unusedVariables false
set_option linter.unusedSimpArgs false
def patX (n : Nat) (os : List OV) (i : Int) (o : OV) (xs : List Int) : List Int := if patE n os i o xs = 0 then ((imgR (os.set i.toNat o)).getD []).map intOf else []
theorem pat_told {w w' : World} {xs : List Int} {n : Nat} {os : List OV} {i : Int} {o : OV} {e : Ending} (h : PatP w xs n os i o e w') (ho : ∀ q ∈ os.set i.toNat o, In8 q.1.xs) :
    ∃ (A : Option Addr) (m c : Nat), e = .returned (.tuple #[.slice A m c, .int .i64 (patE n os i o xs : Nat)]) ∧ Q w w' ∧ Sl 1 (encI .u8) w' A m c (patX n os i o xs) ∧ In8 (patX n os i o xs) := by
  obtain ⟨hq, v, rfl, hcase⟩ := h
  rcases hcase with ⟨hne, rfl⟩ | ⟨h0, L, N, hL, hown⟩
  · have hx : patX n os i o xs = [] := by unfold patX; rw [if_neg hne]
    rw [hx]
    exact ⟨none, 0, 0, rfl, hq, Sl.nil w', fun x hx => by cases hx⟩
  · have hByt : Byt L := Byt.img ho ⟨[], rfl, fun x hx => by cases hx⟩ (show imgF (tabF 0 0 (os.set i.toNat o)) 0 (os.set i.toNat o) [] = some L from hL)
    obtain ⟨ys, rfl, hin⟩ := hByt
    have hN : N = ys.length := by have := hown.1; simp at this; omega
    subst hN
    have hx : patX n os i o xs = ys := by
      unfold patX
      rw [if_pos h0, hL]
      simp only [Option.getD_some, List.map_map]
      conv => rhs; rw [← List.map_id ys]
      rfl
    rw [hx]
    obtain ⟨A, c, rfl, hs⟩ := sl_own8 hown
    exact ⟨A, _, c, rfl, hq, hs, hin⟩
theorem patE_le (n : Nat) (os : List OV) (i : Int) (o : OV) (xs : List Int) : patE n os i o xs ≤ 10 := by
  unfold patE
  split
  · unfold changeE
    split
    · have := listedO_le os; omega
    · split
      · have := valid_le o; omega
      · decide
  · split
    · decide
    · split
      · split <;> decide
      · decide
set_option maxRecDepth 100000 in
set_option maxHeartbeats 4000000 in
theorem LinkImposes_true (l : SlV Int) (L : SlV OV) (i : Int) (o : OV) (w : World) (hb : B8 w l) (hbi : In8 l.xs) (hO : ObsR w L.A L.n L.c L.xs) (hc : L.c ≤ 140737488351232) (ho : ObR w o) :
    Calls Try.prog 9 #[l.val, .agg #[L.val, .int .i64 i, o.1.val, o.2.1.val, o.2.2.val]] w fun e w' => e = .returned (.bool true) ∧ Q w w' := by
  have HLn := hide (fun W g h h2 => Long_any (some ⟨g, 0, none⟩) 1 1 [o] W (obs_single (o := o) h h2) (by decide))
  have hon := one_any o.1.A o.2.1.A o.2.2.A o.1.n o.1.c o.2.1.n o.2.1.c o.2.2.n o.2.2.c
  have HON := hide hon
  obtain ⟨os, hos⟩ : ∃ os, L.xs = os := ⟨_, rfl⟩
  rw [hos] at hO
  have HO := hide hO
  have HOB := hide ho
  have HB := hide hb
  have HLO := hide (fun W (h : Q w W) => Long_any L.A L.n L.c os W (hO.up h) hc)
  have HIN : Hid (∀ q ∈ os.set i.toNat o, In8 q.1.xs) := hide fun q hq => by
    rcases List.mem_or_eq_of_mem_set hq with h9 | h9
    · exact (hO.all q h9).bok
    · rw [h9]; exact ho.bok
  obtain ⟨xs, hxs⟩ : ∃ xs, l.xs = xs := ⟨_, rfl⟩
  rw [hxs] at hbi
  have HP1 := hide (fun W (h : Q w W) (hln : l.n ≤ 1000000) => Patch_any l L.A L.n L.c os i o W (hb.up h) (hO.up h) (ho.up h) hln)
  have HP2 := hide (fun W (h : Q w W) => rPatch_any l L.A L.n L.c os i o W (hb.up h) (hxs ▸ hbi) (hO.up h) (ho.up h))
  have HC1 := hide (fun W (h : Q w W) => Check_any l L.A L.n L.c os W (hb.up h) (hO.up h))
  have HC2 := hide (fun W (h : Q w W) => rCheck_any l L.A L.n L.c os W (hb.up h) (hO.up h))
  rw [hxs] at HP1 HP2 HC1 HC2
  have HTOLD : Hid (∀ (w w' : World) (e : Ending), PatP w xs L.n os i o e w' → ∃ (A : Option Addr) (m c : Nat), e = .returned (.tuple #[.slice A m c, .int .i64 (patE L.n os i o xs : Nat)]) ∧ Q w w' ∧ Sl 1 (encI .u8) w' A m c (patX L.n os i o xs) ∧ In8 (patX L.n os i o xs)) := hide fun w w' e h => pat_told h HIN.out
  have hpl := patE_le L.n os i o xs
  obtain ⟨lA, ln, lc, lx⟩ := l
  obtain ⟨LA, Ln, Lc, Lx⟩ := L
  dsimp only at HTOLD HP1 HP2 HC1 HC2 HLO hpl
  obtain ⟨pe, hpe⟩ : ∃ pe, patE Ln os i o xs = pe := ⟨_, rfl⟩
  obtain ⟨px, hpx⟩ : ∃ px, patX Ln os i o xs = px := ⟨_, rfl⟩
  rw [hpe, hpx] at HTOLD
  rw [hpe] at hpl
  have HXL : Hid (xs.length = ln) := hide (by rw [← hxs]; exact hb.sl.len)
  obtain ⟨⟨A0, n0, c0, bs⟩, ⟨A1, n1, c1, ss⟩, ⟨A2, n2, c2, ws⟩⟩ := o
  unfold obV SlV.val at HP1 HP2
  unfold SlV.val at HC1 HC2 HLn
  dsimp only at HON HP1 HP2 HC1 HC2 HLn
  unfold SlV.val
  dsimp only
  obtain ⟨w2, hw2⟩ : ∃ w2, w.alloc (.cells #[.slice LA Ln Lc, .int .i64 i, .slice A0 n0 c0, .slice A1 n1 c1, .slice A2 n2 c2] 40) = w2 := ⟨_, rfl⟩
  have hq2 : Q w w2 := by rw [← hw2]; exact (Q.refl w).alloc _
  have hs2 : w.heap.size < w2.heap.size := by rw [← hw2]; simp
  have k0 : w2.cell? ⟨w.heap.size, 0, none⟩ = some (.slice LA Ln Lc) := by rw [← hw2]; simp
  have k1 : w2.cell? ⟨w.heap.size, 1, none⟩ = some (.int .i64 i) := by rw [← hw2]; simp
  have k2 : w2.cell? ⟨w.heap.size, 2, none⟩ = some (.slice A0 n0 c0) := by rw [← hw2]; simp
  have k3 : w2.cell? ⟨w.heap.size, 3, none⟩ = some (.slice A1 n1 c1) := by rw [← hw2]; simp
  have k4 : w2.cell? ⟨w.heap.size, 4, none⟩ = some (.slice A2 n2 c2) := by rw [← hw2]; simp
  have K0 := hide k0
  have K1 := hide k1
  have K2 := hide k2
  have K3 := hide k3
  have K4 := hide k4
  have KA : Hid (∀ W, Q w2 W → W.cell? ⟨w.heap.size, 0, none⟩ = some (.slice LA Ln Lc) ∧ W.cell? ⟨w.heap.size, 1, none⟩ = some (.int .i64 i) ∧ W.cell? ⟨w.heap.size, 2, none⟩ = some (.slice A0 n0 c0) ∧ W.cell? ⟨w.heap.size, 3, none⟩ = some (.slice A1 n1 c1) ∧ W.cell? ⟨w.heap.size, 4, none⟩ = some (.slice A2 n2 c2)) := hide fun W h => ⟨(h.facts.1 _ 0 hs2).trans K0.out, (h.facts.1 _ 1 hs2).trans K1.out, (h.facts.1 _ 2 hs2).trans K2.out, (h.facts.1 _ 3 hs2).trans K3.out, (h.facts.1 _ 4 hs2).trans K4.out⟩
  have HLNM := hide (show ln ≤ 9223372036854775807 by have := hb.sl.cap; have := hb.sl.most; dsimp only at *; omega)
  have HPL := hide hpl
  have hlni : (ln : Int) ≤ 9223372036854775807 := by have := HLNM.out; omega
  have HW2 := hide hw2
  have HQ2 := hide hq2
  clear hw2 hq2
  clear hO ho hb hbi hon hos hxs hc hpl hpe hpx K0 K1 K2 K3 K4
  go_enter Try.func9, Try.ntmps9
  go_wp2_with fail
  rw [HW2.out]
  clear k1 k2 k3 k4
  go_wp2_with fail
  refine (HLO.out w2 HQ2.out).mono ?_
  rintro e w3 ⟨rfl, hq3⟩
  have HQ3 := hide (HQ2.out.trans hq3)
  have HQ23 := hide hq3
  clear k0
  cases hlb : longB os with
  | true =>
    clear hlb hq3
    go_wp2_with fail
    refine (known_any w3).mono ?_
    rintro e w5 ⟨rfl, hq5⟩
    go_wp2_with fail
    go_ret
    exact ⟨rfl, HQ3.out.trans hq5⟩
  | false =>
    obtain ⟨k0, k1, k2, k3, k4⟩ := KA.out w3 hq3
    clear hlb hq3
    go_wp2_with fail
    refine (HON.out w3).mono ?_
    rintro e w4 ⟨g, rfl, hg, hgs, hq4⟩
    have HL4 := hide (HLn.out w4 g hg ((HOB.out.up HQ3.out).up hq4))
    have HQ4 := hide (HQ3.out.trans hq4)
    have HQ24 := hide (HQ23.out.trans hq4)
    clear hg hq4 k0 k1 k2 k3 k4
    go_wp2_with fail
    refine HL4.out.mono ?_
    rintro e w5 ⟨rfl, hq5⟩
    have HQ5 := hide (HQ4.out.trans hq5)
    have HQ25 := hide (HQ24.out.trans hq5)
    cases hlb : longB [((⟨A0, n0, c0, bs⟩, ⟨A1, n1, c1, ss⟩, ⟨A2, n2, c2, ws⟩) : OV)] with
    | true =>
      clear hlb hq5
      go_wp2_with fail
      refine (known_any w5).mono ?_
      rintro e w6 ⟨rfl, hq6⟩
      go_wp2_with fail
      go_ret
      exact ⟨rfl, HQ5.out.trans hq6⟩
    | false =>
      clear hlb hq5
      by_cases hbig : 8000 < ln
      · have d1 : decide ((8000 : Int) < (ln : Int)) = true := by simp; omega
        clear hbig
        go_wp2_with fail
        refine (known_any w5).mono ?_
        rintro e w6 ⟨rfl, hq6⟩
        go_wp2_with fail
        go_ret
        exact ⟨rfl, HQ5.out.trans hq6⟩
      · have d1 : decide ((8000 : Int) < (ln : Int)) = false := by simp; omega
        have HBG := hide hbig
        obtain ⟨k0, k1, k2, k3, k4⟩ := KA.out w5 HQ25.out
        clear hbig
        go_wp2_with fail
        refine (HP1.out w5 HQ5.out (by have := HBG.out; omega)).mono ?_
        rintro e w6 hp
        obtain ⟨E6, m6, f6, rfl, hq6, hs6, hin6⟩ := HTOLD.out _ _ _ hp
        have HS6 := hide hs6
        have HI6 := hide hin6
        have HQ6 := hide (HQ5.out.trans hq6)
        have HQ26 := hide (HQ25.out.trans hq6)
        clear k0 k1 k2 k3 k4 hq6 hs6 hin6 hp d1
        obtain ⟨k0, k1, k2, k3, k4⟩ := KA.out w6 HQ26.out
        go_wp2_with fail
        refine (HP2.out w6 HQ6.out).mono ?_
        rintro e w7 hp
        obtain ⟨E7, m7, f7, rfl, hq7, hs7, hin7⟩ := HTOLD.out _ _ _ hp
        have HS7 := hide hs7
        have HQ7 := hide (HQ6.out.trans hq7)
        have HQ67 := hide hq7
        have HQ27 := hide (HQ26.out.trans hq7)
        clear k0 k1 k2 k3 k4 hq7 hs7 hin7 hp
        obtain ⟨k0, k1, k2, k3, k4⟩ := KA.out w7 HQ27.out
        go_wp2_with fail
        refine (HC1.out w7 HQ7.out).mono ?_
        rintro e w8 ⟨hq8, p8, q8, rfl, hr8, hp8, hq8b⟩
        have HQ8 := hide (HQ7.out.trans hq8)
        have HQ78 := hide hq8
        have HQ28 := hide (HQ27.out.trans hq8)
        have HR8 := hide hr8
        clear k0 k1 k2 k3 k4 hq8 hr8
        obtain ⟨k0, k1, k2, k3, k4⟩ := KA.out w8 HQ28.out
        go_wp2_with fail
        refine (HC2.out w8 HQ8.out).mono ?_
        rintro e w9 ⟨hq9, p9, q9, rfl, hr9, -, -⟩
        obtain ⟨rfl, rfl⟩ := HR8.out.one hr9
        have HQ9 := hide (HQ8.out.trans hq9)
        have hs6 := HS6.out.up ((HQ67.out.trans HQ78.out).trans hq9)
        have hs7 := HS7.out.up (HQ78.out.trans hq9)
        have cv1 := conv_sl Try.underlying30 Try.underlying5 Try.underlying9 hs6 HI6.out
        have cv2 := conv_sl Try.underlying30 Try.underlying5 Try.underlying9 hs7 HI6.out
        have tt : ((strI px).toList == (strI px).toList) = true := by simp
        have t1 : ((pe : Int) == (pe : Int)) = true := by simp
        have t2 : ((p8 : Int) == (p8 : Int)) = true := by simp
        have t3 : ((q8 : Int) == (q8 : Int)) = true := by simp
        clear k0 k1 k2 k3 k4 hq9 hs6 hs7 hr9
        go_wp2_with fail
        refine (known_any w9).mono ?_
        rintro e w10 ⟨rfl, hq10⟩
        clear cv1 cv2
        go_wp2_with fail
        go_ret
        exact ⟨rfl, HQ9.out.trans hq10⟩
end Go.Proofs.Ytiilkiggfjpibaa
