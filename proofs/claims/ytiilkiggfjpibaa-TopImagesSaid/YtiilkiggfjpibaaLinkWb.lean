/- The law TopImages: its walk. Conditions: the objects read as such, the patches read as a list. -/
import Derived.Test.YtiilkiggfjpibaaLinkWa
import Derived.Test.YtiilkiggfjpibaaLinkVs
namespace Go.Proofs.Ytiilkiggfjpibaa
open Go.RowKit LK
set_option linter.unusedVariables false
set_option linter.unusedSimpArgs false
def nine (g : Nat) : OV := (⟨some ⟨g, 0, none⟩, 9, 9, List.replicate 9 0⟩, ⟨none, 0, 0, []⟩, ⟨none, 0, 0, []⟩)
theorem nine_listed (g : Nat) : listedO [nine g] = 0 := rfl
theorem nine_starts (g : Nat) : startsR [nine g] = [0, 32] := by
  unfold startsR
  rw [nine_listed]
  simp [startsL, offF, nine, room, List.range, List.range.loop]
theorem starts_nine {w : World} {g gA : Nat} {M9 : Array Value} (h9 : M9.toList = List.replicate 9 (.int .u8 0)) (hg : w.heap[g]? = some (.cells #[.slice (some ⟨gA, 0, none⟩) 9 9, .slice none 0 0, .slice none 0 0] 34 (0, 0))) (hA : w.heap[gA]? = some (.cells M9 5 (0, 0))) :
    Calls Try.prog 11 #[.slice (some ⟨g, 0, none⟩) 1 1] w fun e w' => ∃ A c, e = .returned (.tuple #[.slice A 2 c, .int .i64 0]) ∧ Sl 1 (encI .i64) w' A 2 c [0, 32] ∧ Q w w' := by
  have hob : ObR w (nine gA) := ObR.raw hA (by rw [h9]; rfl) rfl (by decide) (by decide)
  refine (Starts_any _ 1 1 _ _ (obs_single (o := nine gA) hg hob)).mono ?_
  rintro e w5 ⟨v, rfl, hown, hq⟩
  rw [nine_listed, nine_starts] at *
  obtain ⟨A, c, rfl, hc1, hc2, hc3, hrd⟩ := own_form hown
  exact ⟨A, c, rfl, ⟨hrd, rfl, hc1, by unfold maxLen at hc2; omega⟩, hq⟩
theorem img_le {w : World} {A : Option Addr} {n c : Nat} {os : List OV} {xs : List Int} (hO : ObsR w A n c os) (hl : listedO os = 0) (h : imgR os = some (xs.map (Value.int .u8))) : xs.length ≤ 4352 := by
  obtain ⟨h8, hv⟩ := listed_zero2 hl
  have e := imgR_T h
  have e2 : (xs.map (Value.int .u8)).length = offF os := by
    rw [e, imgT_length fun q hq => (hO.all q hq).b.len]
    simp
  have hoff := offF_le (os := os) (fun q hq => (valid_parts (hO.all q hq).s.len (hv q hq)).1) os.length
  rw [List.take_of_length_le (Nat.le_refl _)] at hoff
  rw [List.length_map] at e2
  omega
/-- a patch that CanPatch refuses is refused -/
theorem pat_no {n : Nat} {os : List OV} {i : Int} {o : OV} {xs : List Int} (hn : os.length = n) (h : changeE n os i o ≠ 0 ∨ cpE n os i o = false) : patE n os i o xs ≠ 0 := by
  unfold patE
  by_cases h0 : changeE n os i o = 0
  · rw [if_neg (by simp [h0])]
    obtain ⟨hl0, hi0, hi1, hov⟩ := change_ok h0
    have hc : cpE n os i o = false := by rcases h with h | h; exact absurd h0 h; exact h
    unfold cpE at hc
    rw [if_neg (by simp [h0])] at hc
    cases hp : os[i.toNat]? with
    | none => rw [List.getElem?_eq_none_iff] at hp; omega
    | some p =>
      rw [hp] at hc
      dsimp only at hc ⊢
      rw [if_neg (by rw [hc]; simp)]
      omega
  · rw [if_pos h0]
    exact h0
/-- a patch that CanPatch grants is done -/
theorem pat_yes {n : Nat} {os : List OV} {i : Int} {o : OV} {xs : List Int} (h0 : changeE n os i o = 0) (hc : cpE n os i o = true) (hx : imgR os = some (xs.map (Value.int .u8))) : patE n os i o xs = 0 ∧ ∃ (k : Nat) (p : OV), i = (k : Int) ∧ k < n ∧ os[k]? = some p ∧ canB os k o p = true ∧ o.valid = 0 := by
  obtain ⟨hl0, hi0, hi1, hov⟩ := change_ok h0
  obtain ⟨k, rfl⟩ : ∃ k : Nat, i = (k : Int) := ⟨i.toNat, by omega⟩
  unfold cpE at hc
  rw [if_neg (by simp [h0]), Int.toNat_natCast] at hc
  cases hp : os[k]? with
  | none => rw [hp] at hc; cases hc
  | some p =>
    rw [hp] at hc
    dsimp only at hc
    refine ⟨?_, k, p, rfl, by omega, by first | rfl | exact hp, hc, hov⟩
    unfold patE
    rw [if_neg (by simp [h0]), Int.toNat_natCast, hp]
    dsimp only
    rw [if_pos hc, if_pos (imgI_some hx)]
/-- a place by a rest -/
theorem place_at (ya : Int) {em : Nat} (h0 : 0 < em) (hb : em ≤ 4352) : IntKind.u64.wrap (em : Int) = (em : Int) ∧ ∃ a : Nat, (IntKind.u64.wrap ya).tmod (em : Int) = (a : Int) ∧ a < em ∧ (a : Int) < (em : Int) ∧ wrap64 (a : Int) = (a : Int) ∧ ¬ ((em : Int) = 0) ∧ ¬ (em = 0) := by
  have hu : 0 ≤ IntKind.u64.wrap ya := by simp [IntKind.wrap, IntKind.bits, IntKind.signed]; omega
  have h1 := Int.tmod_nonneg (em : Int) hu
  have h2 := Int.tmod_lt_of_pos (IntKind.u64.wrap ya) (show (0 : Int) < (em : Int) by omega)
  generalize (IntKind.u64.wrap ya).tmod (em : Int) = t at h1 h2 ⊢
  refine ⟨by simp [IntKind.wrap, IntKind.bits, IntKind.signed]; omega, t.toNat, by omega, by omega, by omega, ?_, by omega, by omega⟩
  unfold wrap64
  omega
/-- the list of objects on the way: the one that came, or one of the call's own; the objects themselves lie where they lay -/
def LstR (w wr : World) (A : Option Addr) (n c : Nat) (os : List OV) : Prop := (∀ q ∈ os, ObR w q) ∧ (ObsR w A n c os ∨ wr.ownsRow w.heap.size 34 3 (.slice A n c) n (os.flatMap encO))
section
variable {w wr wr' : World} {A : Option Addr} {n c : Nat} {os : List OV}
theorem LstR.obs (h : LstR w wr A n c os) (hq : Q w wr) : ObsR wr A n c os := by
  obtain ⟨h1, h2 | h2⟩ := h
  · exact h2.up hq
  · exact ⟨Sl.own h2 (fun _ => rfl) (by decide), own_nl h2, fun q hq2 => (h1 q hq2).up hq⟩
theorem LstR.up (h : LstR w wr A n c os) (hq : Q wr wr') : LstR w wr' A n c os := ⟨h.1, h.2.imp id fun h2 => own_q h2 hq⟩
theorem LstR.set {g j N B cg : Nat} {xs : List Value} {u : Value} (h : LstR w wr A n c os) (ho : wr.ownsRow B 5 1 (.slice (some ⟨g, 0, none⟩) N cg) N xs) : LstR w (wr.setCell ⟨g, j, none⟩ u) A n c os := by
  obtain ⟨cs, hb⟩ := own_blk ho (g := g) rfl
  exact ⟨h.1, h.2.imp id fun h2 => own_set_other h2 hb (by decide)⟩
end
set_option maxRecDepth 100000 in
set_option maxHeartbeats 4000000 in
theorem TopImages_true (L : SlV OV) (P : SlV (SlV OV × Int × OV)) (ya yb : Int) (w : World) (hO : ObsR w L.A L.n L.c L.xs) (hc : L.c ≤ 140737488351232) (hP : Sl 5 encPa w P.A P.n P.c P.xs) (hPa : ∀ x ∈ P.xs, okPa w x) (hyb : 0 ≤ yb ∧ yb < 256) :
    Calls Try.prog 3 #[L.val, P.val, .agg #[.int .i64 ya, .int .u8 yb]] w fun e w' => e = .returned (.bool true) ∧ Q w w' := by
  obtain ⟨M9, hM9, hmk9⟩ := mk_u8 9 (by decide)
  have hmk9 : ∀ W : World, (Instr.makeSlice 30 (.int .i64 9) (.int .i64 9)).run Try.prog W = .ok (.slice (some ⟨W.heap.size, 0, none⟩) 9 9) (W.alloc (.cells M9 5)) := hmk9
  obtain ⟨LA, n, Lc, os⟩ := L
  obtain ⟨PA, m, Pc, ps⟩ := P
  dsimp only at hO hc hP hPa
  have HO := hide hO
  have HP := hide hP
  have HPA := hide hPa
  have HM9 := hide hM9
  have HYB := hide hyb
  have HLO := hide (fun W (h : Q w W) => Long_any LA n Lc os W (hO.up h) hc)
  have HNN := hide hO.sl.len
  have hmi : (m : Int) ≤ 9223372036854775807 := by have := hP.cap; have := hP.most; omega
  unfold SlV.val
  dsimp only
  obtain ⟨w1, hw1⟩ : ∃ w1, w.alloc (.cells #[.int .i64 ya, .int .u8 yb] 25) = w1 := ⟨_, rfl⟩
  have hq1 : Q w w1 := by rw [← hw1]; exact (Q.refl w).alloc _
  have hs1 : w.heap.size < w1.heap.size := by rw [← hw1]; simp
  have k0 : w1.cell? ⟨w.heap.size, 0, none⟩ = some (.int .i64 ya) := by rw [← hw1]; simp
  have k1 : w1.cell? ⟨w.heap.size, 1, none⟩ = some (.int .u8 yb) := by rw [← hw1]; simp
  have K0 := hide k0
  obtain ⟨w2, hw2⟩ : ∃ w2, (w1.alloc (.cells M9 5)).alloc (.cells #[.slice (some ⟨w1.heap.size, 0, none⟩) 9 9, .slice none 0 0, .slice none 0 0] 34) = w2 := ⟨_, rfl⟩
  have hq2 : Q w1 w2 := by rw [← hw2]; exact ((Q.refl w1).alloc _).alloc _
  have hb2 : w2.heap[w1.heap.size + 1]? = some (.cells #[.slice (some ⟨w1.heap.size, 0, none⟩) 9 9, .slice none 0 0, .slice none 0 0] 34 (0, 0)) := by
    rw [← hw2]
    have := heap_alloc_new (w1.alloc (.cells M9 5)) (.cells #[.slice (some ⟨w1.heap.size, 0, none⟩) 9 9, .slice none 0 0, .slice none 0 0] 34)
    simpa using this
  have hb1 : w2.heap[w1.heap.size]? = some (.cells M9 5 (0, 0)) := by
    rw [← hw2]
    exact (heap_alloc_old _ _ (by simp)).trans (heap_alloc_new w1 _)
  have HST := hide (starts_nine HM9.out hb2 hb1)
  have HQ1 := hide hq1
  have HQ2 := hide (hq1.trans hq2)
  have HQ12 := hide hq2
  have HW1 := hide hw1
  have HW2 := hide hw2
  clear hO hc hP hPa hM9 hyb hw1 hq1 hw2 hq2 hb1 hb2
  go_enter Try.func3, Try.ntmps3
  go_upto_region 1 with fail
  rw [HW1.out]
  go_wp2_with fail
  rw [HW2.out]
  refine HST.out.mono ?_
  rintro e w3 ⟨A3, c3, rfl, hsl3, hq3⟩
  have HSL3 := hide hsl3
  have HQ3 := hide (HQ2.out.trans hq3)
  have HQ13 := hide (HQ12.out.trans hq3)
  clear hsl3 hq3 k0 k1 hmk9
  go_wp2_with fail
  refine (SameInts_same A3 2 c3 (some ⟨w3.heap.size, 0, none⟩) 2 [0, 32] _ (HSL3.out.up ((Q.refl w3).alloc _)) ⟨rd_blk (heap_alloc_new w3 _) rfl, rfl, Nat.le_refl _, by decide⟩ (by decide)).mono ?_
  rintro e w4 ⟨rfl, hq4⟩
  have HQ4 := hide ((HQ3.out.alloc _).trans hq4)
  have HQ14 := hide ((HQ13.out.alloc _).trans hq4)
  clear hq4
  go_wp2_with fail
  refine (HLO.out w4 HQ4.out).mono ?_
  rintro e w5 ⟨rfl, hq5⟩
  have HQ5 := hide (HQ4.out.trans hq5)
  have HQ15 := hide (HQ14.out.trans hq5)
  clear hq5
  cases hlb : longB os with
  | true =>
    clear hlb
    go_wp2_with fail
    go_ret
    exact ⟨rfl, HQ5.out⟩
  | false =>
    clear hlb
    by_cases hm20 : 20 < m
    · have d1 : decide ((20 : Int) < (m : Int)) = true := by simp; omega
      clear hm20
      go_wp2_with fail
      go_ret
      exact ⟨rfl, HQ5.out⟩
    have d1 : decide ((20 : Int) < (m : Int)) = false := by simp; omega
    have HIM := hide (Image_any LA n Lc os w5 (HO.out.up HQ5.out))
    clear hm20
    go_wp2_with fail
    refine HIM.out.mono ?_
    rintro e w6 ⟨hq6, hcase⟩
    have HQ6 := hide (HQ5.out.trans hq6)
    have HQ16 := hide (HQ15.out.trans hq6)
    rcases hcase with ⟨hne, rfl⟩ | ⟨hl0, hcase⟩
    · have d2 : ((listedO os : Int) != 0) = true := by simp; omega
      clear hne hq6
      go_wp2_with fail
      go_ret
      exact ⟨rfl, HQ6.out⟩
    rcases hcase with ⟨hnn, rfl⟩ | ⟨M, v6, N6, hsm, rfl, hown6⟩
    · clear hnn hq6
      go_wp2_with fail
      go_ret
      exact ⟨rfl, HQ6.out⟩
    have hByt : Byt M := Byt.img (fun q hq => (HO.out.all q hq).bok) ⟨[], rfl, fun x hx => by cases hx⟩ (show imgF (tabF 0 0 os) 0 os [] = some M from hsm)
    obtain ⟨xs0, rfl, hin0⟩ := hByt
    have hN : N6 = xs0.length := by have := hown6.1; simp at this; omega
    subst hN
    have HOWN := hide (own_base2 hown6 HQ5.out.size)
    have HL0 := hide hl0
    have HSM := hide hsm
    have HIN0 := hide hin0
    clear hq6 hl0 hsm hown6 hin0 d1 HIM
    go_wp2_with fail
    go_loopw [0, 10, 12] (fun v0 v10 v12 wr => ∃ (k : Nat) (os1 : List OV) (A : Option Addr) (c : Nat) (xs : List Int), k ≤ m ∧ v12 = .int .i64 k ∧ v0 = .slice A n c ∧ LstR w wr A n c os1 ∧ listedO os1 = 0 ∧ imgR os1 = some (xs.map (Value.int .u8)) ∧ In8 xs ∧ wr.ownsRow w.heap.size 5 1 v10 xs.length (xs.map (Value.int .u8)) ∧ Q w1 wr) (fun _ _ vi _ => m - (intOf vi).toNat)
    case atStart => exact ⟨0, os, LA, Lc, xs0, by omega, by go_num, rfl, ⟨HO.out.all, .inl HO.out⟩, HL0.out, HSM.out, HIN0.out, HOWN.out, HQ16.out⟩
    case round =>
      obtain ⟨k, os1, A, c, xs, hk, rfl, rfl, hls, hl1, him, hin, hown, hqr⟩ := hrel
      have hob1 := hls.obs (HQ1.out.trans hqr)
      have HLS := hide hls
      obtain ⟨wo, rfl⟩ : ∃ wo : World, wo = wr := ⟨_, rfl⟩
      have HOB := hide hob1
      have HL1 := hide hl1
      have HIMG := hide him
      have HIN := hide hin
      have HOW := hide hown
      have HQR := hide hqr
      have HLN := hide hob1.sl.len
      have HLE := hide (img_le hob1 hl1 him)
      obtain ⟨l10, rfl, hx10, hn10, hb10⟩ := B8.own hown
      have HB10 := hide hb10
      have HX10 := hide hx10
      have HN10 := hide hn10
      obtain ⟨E, em, ec, ex⟩ := l10
      unfold SlV.val at HOW ⊢
      dsimp only at HX10 HN10 HOW ⊢
      have HQW := hide (HQ1.out.trans hqr)
      clear hls hob1 hl1 him hin hown hqr hb10 hx10 hn10
      by_cases hlt : k < m
      · have hd1 : decide ((k : Int) < (m : Int)) = true := by simp; omega
        have hd0 : decide (k < m) = true := by simp; omega
        have hlti : (k : Int) < (m : Int) := by omega
        obtain ⟨pb, po, px, rfl, hpb, hpx, hpc⟩ := HP.out.at_ (fun _ => rfl) (by decide) k hlt
        obtain ⟨⟨XA, xn, xc, xx⟩, xi, xo⟩ := px
        have hok := HPA.out _ (List.mem_of_getElem? hpx)
        have hxo : ObR w xo := ObR.of hok.2.2
        have HXO := hide hxo
        obtain ⟨o0, ho0⟩ : ∃ o0, o0 = xo := ⟨_, rfl⟩
        have HXOZ := hide ho0
        have HXO0 : Hid (ObR w o0) := hide (by rw [ho0]; exact hxo)
        obtain ⟨⟨A0, n0, c0, bs⟩, ⟨A1, n1, c1, ss⟩, ⟨A2, n2, c2, ws⟩⟩ := xo
        have p0 : wo.cell? ⟨pb, po + k * 5, none⟩ = some (.slice XA xn xc) := (HQW.out.facts.1 _ _ hpb).trans (by have := hpc 0 _ rfl; simpa [SlV.val] using this)
        have p1 : wo.cell? ⟨pb, po + k * 5 + 1, none⟩ = some (.int .i64 xi) := (HQW.out.facts.1 _ _ hpb).trans (hpc 1 _ rfl)
        have p2 : wo.cell? ⟨pb, po + k * 5 + 2, none⟩ = some (.slice A0 n0 c0) := (HQW.out.facts.1 _ _ hpb).trans (hpc 2 _ rfl)
        have p3 : wo.cell? ⟨pb, po + k * 5 + 3, none⟩ = some (.slice A1 n1 c1) := (HQW.out.facts.1 _ _ hpb).trans (hpc 3 _ rfl)
        have p4 : wo.cell? ⟨pb, po + k * 5 + 4, none⟩ = some (.slice A2 n2 c2) := (HQW.out.facts.1 _ _ hpb).trans (hpc 4 _ rfl)
        obtain ⟨wb, hwb⟩ : ∃ wb, wo.alloc (.cells #[.slice XA xn xc, .int .i64 xi, .slice A0 n0 c0, .slice A1 n1 c1, .slice A2 n2 c2] 40) = wb := ⟨_, rfl⟩
        have hqb : Q wo wb := by rw [← hwb]; exact (Q.refl wo).alloc _
        have hbb : wb.heap[wo.heap.size]? = some (.cells #[.slice XA xn xc, .int .i64 xi, .slice A0 n0 c0, .slice A1 n1 c1, .slice A2 n2 c2] 40 (0, 0)) := by rw [← hwb]; exact heap_alloc_new wo _
        have hsb : wo.heap.size < wb.heap.size := by rw [← hwb]; simp
        have k1 : wb.cell? ⟨wo.heap.size, 1, none⟩ = some (.int .i64 xi) := cell_blkJ (j := 1) hbb rfl
        have k2 : wb.cell? ⟨wo.heap.size, 2, none⟩ = some (.slice A0 n0 c0) := cell_blkJ (j := 2) hbb rfl
        have k3 : wb.cell? ⟨wo.heap.size, 3, none⟩ = some (.slice A1 n1 c1) := cell_blkJ (j := 3) hbb rfl
        have k4 : wb.cell? ⟨wo.heap.size, 4, none⟩ = some (.slice A2 n2 c2) := cell_blkJ (j := 4) hbb rfl
        have KA : Hid (∀ W, Q wb W → W.cell? ⟨wo.heap.size, 1, none⟩ = some (.int .i64 xi) ∧ W.cell? ⟨wo.heap.size, 2, none⟩ = some (.slice A0 n0 c0) ∧ W.cell? ⟨wo.heap.size, 3, none⟩ = some (.slice A1 n1 c1) ∧ W.cell? ⟨wo.heap.size, 4, none⟩ = some (.slice A2 n2 c2)) := hide fun W h => ⟨(h.facts.1 _ 1 hsb).trans (cell_blkJ (j := 1) hbb rfl), (h.facts.1 _ 2 hsb).trans (cell_blkJ (j := 2) hbb rfl), (h.facts.1 _ 3 hsb).trans (cell_blkJ (j := 3) hbb rfl), (h.facts.1 _ 4 hsb).trans (cell_blkJ (j := 4) hbb rfl)⟩
        have HQB := hide (HQW.out.trans hqb)
        have HQOB := hide hqb
        have HWB := hide hwb
        have HLG := hide (Long_any (some ⟨wb.heap.size, 0, none⟩) 1 1 [(⟨A0, n0, c0, bs⟩, ⟨A1, n1, c1, ss⟩, ⟨A2, n2, c2, ws⟩)] (wb.alloc (.cells #[.slice A0 n0 c0, .slice A1 n1 c1, .slice A2 n2 c2] 34)) (obs_single (o := (⟨A0, n0, c0, bs⟩, ⟨A1, n1, c1, ss⟩, ⟨A2, n2, c2, ws⟩)) (heap_alloc_new wb _) (HXO.out.up ((HQW.out.trans hqb).alloc _))) (by decide))
        clear hpx hok hxo ho0 hpc hwb hqb hbb
        go_upto_region 14 with fail
        rw [HWB.out]
        clear p0 p1 p2 p3 p4
        go_wp2_with fail
        refine HLG.out.mono ?_
        rintro e w4 ⟨rfl, hq4⟩
        have HQ4 := hide ((HQB.out.alloc _).trans hq4)
        have HQB4 := hide (((Q.refl wb).alloc _).trans hq4)
        have HQO4 := hide (HQOB.out.trans (((Q.refl wb).alloc _).trans hq4))
        clear hq4 k1 k2 k3 k4
        cases hlb : longB [((⟨A0, n0, c0, bs⟩, ⟨A1, n1, c1, ss⟩, ⟨A2, n2, c2, ws⟩) : OV)] with
        | true =>
          clear hlb
          go_wp2_with fail
          go_roundw
          case rel => exact ⟨k + 1, os1, A, c, xs, by omega, by go_num, rfl, HLS.out.up HQO4.out, HL1.out, HIMG.out, HIN.out, own_q HOW.out HQO4.out, HQR.out.trans HQO4.out⟩
          case measure => simp [intOf] <;> omega
        | false =>
          obtain ⟨k1, k2, k3, k4⟩ := KA.out w4 HQB4.out
          obtain ⟨ce, hce⟩ : ∃ ce, changeE n os1 xi o0 = ce := ⟨_, rfl⟩
          obtain ⟨cp, hcp⟩ : ∃ cp, cpE n os1 xi o0 = cp := ⟨_, rfl⟩
          have HCN := hide (CanPatch_any A n c os1 xi o0 w4 (HOB.out.up HQO4.out) (HXO0.out.up HQ4.out))
          have HPT := hide (fun W (h : Q wo W) => Patch_any ⟨E, em, ec, ex⟩ A n c os1 xi o0 W (HB10.out.up h) (HOB.out.up h) (HXO0.out.up (HQW.out.trans h)) (by have := HLE.out; have := HN10.out; dsimp only; omega))
          have HEN := hide (Encode_any o0)
          have HWI := hide (fun W (h : Q wo W) (kk : Nat) (h1 : kk < n) (h2 : n ≤ 8) => With_any A n c os1 kk o0 W (HOB.out.up h) h1 h2)
          rw [hce, hcp] at HCN
          have eO : obV o0 = .agg #[.slice A0 n0 c0, .slice A1 n1 c1, .slice A2 n2 c2] := by rw [HXOZ.out]; rfl
          simp only [eO] at HCN HPT HEN HWI
          unfold SlV.val at HPT
          dsimp only at HPT
          have HCE := hide hce
          have HCP := hide hcp
          clear hlb hce hcp eO
          go_wp2_with fail
          refine HCN.out.mono ?_
          rintro e w5 ⟨rfl, hq5⟩
          have HQ5 := hide (HQ4.out.trans hq5)
          have HQO5 := hide (HQO4.out.trans hq5)
          have HQB5 := hide (HQB4.out.trans hq5)
          clear k1 k2 k3 k4 hq5
          obtain ⟨k1, k2, k3, k4⟩ := KA.out w5 HQB5.out
          by_cases hyes : ce = 0 ∧ cp = true
          · obtain ⟨hy1, rfl⟩ := hyes
            have d1 : ((ce : Int) != 0) = false := by rw [hy1]; rfl
            obtain ⟨hpy, ki, p, rfl, hki, hpi, hcb, hov⟩ := pat_yes (HCE.out.trans hy1) HCP.out HIMG.out
            have HPY := hide hpy
            have HKI := hide hki
            have HPI := hide hpi
            have HCB := hide hcb
            have HOV := hide hov
            have hfit := enc_good HXO0.out hov
            have HGD := hide hfit
            clear hy1 hpy hpi hcb hov hfit
            go_wp2_with fail
            refine (HEN.out w5 (HXO0.out.up HQ5.out)).mono ?_
            rintro e w6 ⟨v6, rfl, hown6, hq6⟩
            rw [HOV.out]
            have HQ6 := hide (HQ5.out.trans hq6)
            have HQO6 := hide (HQO5.out.trans hq6)
            have HQB6 := hide (HQB5.out.trans hq6)
            obtain ⟨l6, rfl, hx6, hn6, hb6⟩ := B8.own hown6
            have hin6 : In8 l6.xs := by rw [hx6]; exact encR_in HXO0.out.bok
            have HDE := hide ((Decode_any l6 w6 hb6 hin6).mono fun e w' h => dec_told h hin6)
            rw [hx6] at HDE
            clear hq6 hown6 hx6 hn6 hb6 hin6 k1 k2 k3 k4
            obtain ⟨B6, m6, d6, z6⟩ := l6
            unfold SlV.val at HDE ⊢
            dsimp only at HDE ⊢
            go_wp2_with fail
            refine HDE.out.mono ?_
            rintro e w7 ⟨o2, er, rfl, hob2, hq7, hcase⟩
            rcases hcase with ⟨hbad, -, -⟩ | ⟨-, rfl, hn2, e1, e2, e3⟩
            · have := HGD.out.1
              rw [hbad] at this
              cases this
            have hcan : can o0 = can o2 := can_same HXO0.out hob2 (by
              have hg := HGD.out.2
              rw [hg] at e1 e2 e3
              exact ⟨e1.symm, e2.symm, e3.symm⟩)
            obtain ⟨oz, hoz⟩ : ∃ oz, oz = o2 := ⟨_, rfl⟩
            have HOZ := hide hoz
            rw [← hoz] at hob2 hcan
            obtain ⟨⟨D0, r0, f0, b0⟩, ⟨D1, r1, f1, b1⟩, ⟨D2, r2, f2, b2⟩⟩ := o2
            unfold obV SlV.val
            dsimp only
            obtain ⟨w8, hw8⟩ : ∃ w8, w7.alloc (.cells #[.slice D0 r0 f0, .slice D1 r1 f1, .slice D2 r2 f2] 34) = w8 := ⟨_, rfl⟩
            have hq8 : Q w7 w8 := by rw [← hw8]; exact (Q.refl w7).alloc _
            have hb8 : w8.heap[w7.heap.size]? = some (.cells #[.slice D0 r0 f0, .slice D1 r1 f1, .slice D2 r2 f2] 34 (0, 0)) := by rw [← hw8]; exact heap_alloc_new w7 _
            have z0 : w8.cell? ⟨w7.heap.size, 0, none⟩ = some (.slice D0 r0 f0) := cell_blkJ (j := 0) hb8 rfl
            have z1 : w8.cell? ⟨w7.heap.size, 1, none⟩ = some (.slice D1 r1 f1) := cell_blkJ (j := 1) hb8 rfl
            have z2 : w8.cell? ⟨w7.heap.size, 2, none⟩ = some (.slice D2 r2 f2) := cell_blkJ (j := 2) hb8 rfl
            have HQ8 := hide (HQ6.out.trans (hq7.trans hq8))
            have HQO8 := hide (HQO6.out.trans (hq7.trans hq8))
            have HQB8 := hide (HQB6.out.trans (hq7.trans hq8))
            have HW8 := hide hw8
            have HCAN := hide hcan
            have HP2 := hide (Patch_any ⟨E, em, ec, ex⟩ A n c os1 ((ki : Nat) : Int) oz w8 (HB10.out.up HQO8.out) (HOB.out.up HQO8.out) (hob2.up hq8) (by have := HLE.out; have := HN10.out; dsimp only; omega))
            have hov2 : obV oz = .agg #[.slice D0 r0 f0, .slice D1 r1 f1, .slice D2 r2 f2] := by rw [HOZ.out]; rfl
            rw [hov2] at HP2
            unfold SlV.val at HP2
            dsimp only at HP2
            obtain ⟨k1, k2, k3, k4⟩ := KA.out w8 HQB8.out
            have d0 : ((0 : Int) != 0) = false := rfl
            clear hq7 hob2 hn2 e1 e2 e3 hcan hw8 hq8 hb8 hoz hov2
            go_upto_region 22 with fail
            rw [HW8.out]
            go_wp2_with fail
            refine HP2.out.mono ?_
            rintro e w9 ⟨hq9, v9, rfl, hcase⟩
            have hpz : patE n os1 ((ki : Nat) : Int) oz ex = 0 := by rw [HX10.out, ← patE_same HCAN.out]; exact HPY.out
            rw [hpz] at hcase ⊢
            rcases hcase with ⟨h9, -⟩ | ⟨-, M2, N2, hM2, hown9⟩
            · exact absurd rfl h9
            rw [Int.toNat_natCast, ← imgR_same HCAN.out] at hM2
            have hin2 : ∀ q ∈ os1.set ki o0, In8 q.1.xs := fun q hq => by
              rcases List.mem_or_eq_of_mem_set hq with h9 | h9
              · exact (HOB.out.all q h9).bok
              · rw [h9]; exact HXO0.out.bok
            have hByt : Byt M2 := Byt.img hin2 ⟨[], rfl, fun x hx => by cases hx⟩ (show imgF (tabF 0 0 (os1.set ki o0)) 0 (os1.set ki o0) [] = some M2 from hM2)
            obtain ⟨ys, rfl, hiy⟩ := hByt
            have hN : N2 = ys.length := by have := hown9.1; simp at this; omega
            subst hN
            have HM2 := hide hM2
            have HIY := hide hiy
            have HQ9 := hide (HQ8.out.trans hq9)
            have HQO9 := hide (HQO8.out.trans hq9)
            have HQB9 := hide (HQB8.out.trans hq9)
            have HO9 := hide (own_base2 hown9 HQ8.out.size)
            obtain ⟨A9, c9, rfl, -⟩ := sl_own8 hown9
            obtain ⟨h8, hv1⟩ := listed_zero2 HL1.out
            have HWX := hide (HWI.out w9 HQO9.out ki HKI.out (by have := HLN.out; omega))
            have HL2 := hide (listed_with HCB.out HL1.out HOV.out)
            clear hq9 hpz hM2 hin2 hiy hown9 h8 hv1 z0 z1 z2 k1 k2 k3 k4
            obtain ⟨k1, k2, k3, k4⟩ := KA.out w9 HQB9.out
            go_wp2_with fail
            refine HWX.out.mono ?_
            rintro e w10 ⟨v10, rfl, hown10, hq10⟩
            obtain ⟨Vn, cv, rfl, -⟩ := own_form hown10
            have HQ10 := hide (HQ9.out.trans hq10)
            have HQO10 := hide (HQO9.out.trans hq10)
            have HOB2 := hide (obs_with hown10 (HOB.out.up HQO10.out) (HXO0.out.up HQ10.out))
            have HO10 := hide (own_q HO9.out hq10)
            have HW10 := hide (own_base2 hown10 HQ9.out.size)
            have HIM2 := hide (Image_any Vn n cv (os1.set ki o0) w10 HOB2.out)
            clear hown10 hq10 k1 k2 k3 k4
            go_wp2_with fail
            refine HIM2.out.mono ?_
            rintro e w11 ⟨hq11, hcase⟩
            rcases hcase with ⟨h9, -⟩ | ⟨-, hcase⟩
            · exact absurd HL2.out h9
            rcases hcase with ⟨h9, -⟩ | ⟨L3, v11, N3, h9, rfl, hown11⟩
            · rw [HM2.out] at h9; cases h9
            obtain rfl : L3 = ys.map (Value.int .u8) := by rw [HM2.out] at h9; injection h9 with h9; exact h9.symm
            have hN3 : N3 = ys.length := by have := hown11.1; simp at this; omega
            subst hN3
            have HQO11 := hide (HQO10.out.trans hq11)
            have HO11 := hide (own_q HO10.out hq11)
            obtain ⟨A9', c9', e9, hs9⟩ := sl_own8 HO11.out
            cases e9
            obtain ⟨A11, c11, rfl, hs11⟩ := sl_own8 hown11
            have cv1 := conv_sl Try.underlying30 Try.underlying5 Try.underlying9 hs9 HIY.out
            have cv2 := conv_sl Try.underlying30 Try.underlying5 Try.underlying9 hs11 HIY.out
            have tt : ((strI ys).toList == (strI ys).toList) = true := by simp
            have HOB3 : Hid (LstR w w11 Vn n cv (os1.set ki o0)) := hide ⟨fun q hq => by
              rcases List.mem_or_eq_of_mem_set hq with h8 | h8
              · exact HLS.out.1 q h8
              · rw [h8]; exact HXO0.out, .inr (own_q HW10.out hq11)⟩
            clear hq11 h9 hown11 hs9 hs11
            go_wp2_with fail
            go_roundw
            case rel => exact ⟨k + 1, os1.set ki o0, Vn, cv, ys, by omega, by go_num, rfl, HOB3.out, HL2.out, HM2.out, HIY.out, HO11.out, HQR.out.trans HQO11.out⟩
            case measure => simp [intOf] <;> omega
          · have hpn := pat_no (xs := xs) HLN.out (by
              rw [HCE.out, HCP.out]
              by_cases h9 : ce = 0
              · right
                cases cp with
                | false => rfl
                | true => exact absurd ⟨h9, rfl⟩ hyes
              · exact .inl h9)
            obtain ⟨pe, hpe⟩ : ∃ pe, patE n os1 xi o0 xs = pe := ⟨_, rfl⟩
            have hple := patE_le n os1 xi o0 xs
            rw [hpe] at hpn hple
            have HPE := hide hpe
            have HPN := hide hpn
            have d3 : ((pe : Int) == 0) = false := by simp; omega
            have hpx : Hid (∀ W, Q wo W → Calls Try.prog 16 #[.slice E em ec, .slice A n c, .int .i64 xi, .agg #[.slice A0 n0 c0, .slice A1 n1 c1, .slice A2 n2 c2]] W fun e w' => e = .returned (.tuple #[.slice none 0 0, .int .i64 (pe : Nat)]) ∧ Q W w') := hide fun W h => by
              refine (HPT.out W h).mono ?_
              rintro e w' ⟨hq, v, rfl, hcase⟩
              rw [HX10.out, HPE.out] at hcase ⊢
              rcases hcase with ⟨-, rfl⟩ | ⟨h9, -⟩
              · exact ⟨rfl, hq⟩
              · exact absurd h9 HPN.out
            have hno : ce ≠ 0 ∨ (ce = 0 ∧ cp = false) := by
              by_cases h9 : ce = 0
              · right
                refine ⟨h9, ?_⟩
                cases cp with
                | false => rfl
                | true => exact absurd ⟨h9, rfl⟩ hyes
              · exact .inl h9
            clear hpe hpn hyes hple
            rcases hno with hno | ⟨hno, rfl⟩
            · have d1 : ((ce : Int) != 0) = true := by simp; omega
              clear hno
              go_wp2_with fail
              refine (hpx.out w5 HQO5.out).mono ?_
              rintro e w6 ⟨rfl, hq6⟩
              have HQO6 := hide (HQO5.out.trans hq6)
              clear hq6 k1 k2 k3 k4
              go_wp2_with fail
              go_roundw
              case rel => exact ⟨k + 1, os1, A, c, xs, by omega, by go_num, rfl, HLS.out.up HQO6.out, HL1.out, HIMG.out, HIN.out, own_q HOW.out HQO6.out, HQR.out.trans HQO6.out⟩
              case measure => simp [intOf] <;> omega
            · have d1 : ((ce : Int) != 0) = false := by rw [hno]; rfl
              clear hno
              go_wp2_with fail
              refine (hpx.out w5 HQO5.out).mono ?_
              rintro e w6 ⟨rfl, hq6⟩
              have HQO6 := hide (HQO5.out.trans hq6)
              clear hq6 k1 k2 k3 k4
              go_wp2_with fail
              go_roundw
              case rel => exact ⟨k + 1, os1, A, c, xs, by omega, by go_num, rfl, HLS.out.up HQO6.out, HL1.out, HIMG.out, HIN.out, own_q HOW.out HQO6.out, HQR.out.trans HQO6.out⟩
              case measure => simp [intOf] <;> omega
      · have hd1 : decide ((k : Int) < (m : Int)) = false := by simp; omega
        have hd0 : decide (k < m) = false := by simp; omega
        obtain rfl : k = m := by omega
        have HCH := hide (Check_any ⟨E, em, ec, ex⟩ A n c os1 wo HB10.out HOB.out)
        unfold SlV.val at HCH
        dsimp only at HCH
        go_wp2_with fail
        refine HCH.out.mono ?_
        rintro e w4 ⟨hq4, p4, q4, rfl, hr4, -, -⟩
        have hex : ex = xs := HX10.out
        rw [hex] at hr4
        obtain ⟨rfl, rfl⟩ := hr4.one (chk_full HL1.out HIMG.out)
        have HQ4 := hide (HQW.out.trans hq4)
        have HQO4 := hide hq4
        rw [← HN10.out]
        have d1 : ((em : Int) != (em : Int)) = false := by simp
        have HEX := hide hex
        clear hq4 hr4 hex
        rcases Nat.eq_zero_or_pos em with h0 | h0
        · have d2 : ((em : Int) == 0) = true := by rw [h0]; rfl
          clear h0
          go_wp2_with fail
          go_ret
          exact ⟨rfl, HQ4.out⟩
        · have d2 : ((em : Int) == 0) = false := by simp; omega
          have y0 : w4.cell? ⟨w.heap.size, 0, none⟩ = some (.int .i64 ya) := ((HQR.out.trans HQO4.out).facts.1 _ 0 hs1).trans K0.out
          have hxl : 0 < xs.length := by have := HN10.out; omega
          obtain ⟨g, cg, eg, hgb, hgl, hgn, hgm, hcell, hfz⟩ := own_at (own_q HOW.out HQO4.out) hxl
          have eg2 : E = some ⟨g, 0, none⟩ ∧ ec = cg := by
            injection eg with e5 e6 e7
            exact ⟨e5, e7⟩
          obtain ⟨rfl, rfl⟩ := eg2
          obtain ⟨hwe, a, ha, hal, hali, hw64, hem0, hem1⟩ := place_at ya h0 (by rw [HN10.out]; exact HLE.out)
          obtain ⟨x, hx⟩ : ∃ x, xs[a]? = some x := ⟨_, List.getElem?_eq_getElem (by rw [← HN10.out]; exact hal)⟩
          have yc : w4.cell? ⟨g, a, none⟩ = some (.int .u8 x) := hcell a _ (by rw [List.getElem?_map, hx]; rfl)
          have yf := hfz a
          have HGB := hide hgb
          have HX := hide hx
          have HOW4 := hide (own_q HOW.out HQO4.out)
          clear hxl eg hcell hfz hx hgm hgn h0
          by_cases hxy : x = yb
          · have d5 : (x == yb) = true := by simp [hxy]
            clear hxy
            go_wp2_with fail
            go_ret
            exact ⟨rfl, HQ4.out⟩
          · have d5 : (x == yb) = false := by simp [hxy]
            have HXY := hide (show yb ≠ x from fun h => hxy h.symm)
            obtain ⟨w5, hw5⟩ : ∃ w5, w4.setCell ⟨g, a, none⟩ (.int .u8 yb) = w5 := ⟨_, rfl⟩
            have hq5 : Q w w5 := by rw [← hw5]; exact HQ4.out.set HGB.out _
            have hrow : w5.ownsRow w.heap.size 5 1 (.slice (some ⟨g, 0, none⟩) em ec) (xs.set a yb).length ((xs.set a yb).map (Value.int .u8)) := by
              have h9 := HOW4.out
              rw [List.length_set, List.map_set, ← hw5, ← HN10.out]
              rw [← HN10.out] at h9
              exact own_set h9 a _
            obtain ⟨l5, e5, hx5, hn5, hb5⟩ := B8.own hrow
            have hls5 : LstR w w5 A n c os1 := by
              rw [← hw5]
              have h9 := HOW4.out
              rw [← HN10.out] at h9
              exact (HLS.out.up HQO4.out).set h9
            have HCH2 := hide (Check_any l5 A n c os1 w5 hb5 (hls5.obs hq5))
            rw [← e5, hx5] at HCH2
            have HW5 := hide hw5
            have HQ5 := hide hq5
            clear hxy hw5 hq5 hrow e5 hx5 hn5 hb5 hls5
            go_wp2_with fail
            rw [HW5.out]
            refine HCH2.out.mono ?_
            rintro e w6 ⟨hq6, p6, q6, rfl, hr6, -, -⟩
            obtain ⟨rfl, rfl⟩ := hr6.one (chk_diff HL1.out HIMG.out HX.out HXY.out)
            have HQ6 := hide (HQ5.out.trans hq6)
            have d6 : ((p6 : Int) == (p6 : Int)) = true := by simp
            clear hq6 hr6 yc yf
            go_wp2_with fail
            go_ret
            exact ⟨rfl, HQ6.out⟩
end Go.Proofs.Ytiilkiggfjpibaa
