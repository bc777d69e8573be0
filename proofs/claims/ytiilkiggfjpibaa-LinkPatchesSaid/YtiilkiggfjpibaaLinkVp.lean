/- The walk of the program's Patch. Conditions: the memory reads as bytes, the objects read as such. -/
import Derived.Test.YtiilkiggfjpibaaLinkVo
import Derived.Test.YtiilkiggfjpibaaLinkVe
import Derived.Test.YtiilkiggfjpibaaLinkU8
namespace Go.Proofs.Ytiilkiggfjpibaa
open Go.RowKit LK
set_option linter.unusedVariables false
set_option linter.unusedSimpArgs false
namespace Ri
theorem run_cutlh {P : Program} {o : Oper} {A : Act} {w : World} {x lo hi : Operand} {t e : TypeId} {g n c a b : Nat} (ho : o.op = .slice t x (some lo) (some hi) none) (hx : A.eval x = .slice (some ⟨g, 0, none⟩) n c) (hl : A.eval lo = .int .i64 ((a : Nat) : Int)) (hh : A.eval hi = .int .i64 ((b : Nat) : Int)) (hu : P.underlying t = some (.slice e)) (hs : (P.info? e).map (·.size) = some 1) (hab : a ≤ b) (hb : b ≤ c) :
    (execOp A.eval o).run P w = .ok (.value (.slice (if c = a then some ⟨g, 0, none⟩ else some ⟨g, a, none⟩) (b - a) (c - a))) w := by
  have he : P.elem t = e := by unfold Program.elem; simp [hu]
  have hu' : P.underlying t = some (.slice (P.elem t)) := by rw [he]; exact hu
  have hsz : (sizeOf e).run P w = .ok 1 w := by
    cases hq : P.info? e with
    | none => simp [hq] at hs
    | some i => simp [hq] at hs; simp [sizeOf, typeInfo, hq, hs]
  unfold execOp
  simp only [ho, hx, Option.map_some, hl, hh, Option.map_none]
  simp [run_sliceAt_slice _ _ _ _ _ _ hu', run_slice_lh (P := P) w t _ n c hu' .i64 .i64 (a : Int) (b : Int) (by omega) (by omega) (by omega), he, hsz, sliced, addr_add]
theorem wp_copyR {P : Program} (w : World) {o : Oper} {a : Act} {K : Act → World → Prop} {R : Exit → Act → World → Prop} (d s : Operand) (t t' : TypeId) (ho : o.op = .call { callee := .builtin .copy, args := #[d, s], argTypes := #[t, t'] }) (v u : Value) (hd : a.eval d = v) (hs : a.eval s = u) {v' : Value} {w' : World} (hr : (Builtin.copy_ #[t, t'] o.type #[v, u]).run P w = .ok v' w') (h : K (a.put o.dst v') w') : o.wp P a w K R := by
  unfold Oper.wp execOp
  simp only [ho, resolve, invoke, builtin, Sem.run_bind, Sem.run_pure, Result.andThen_ok, List.map_toArray, List.map_cons, List.map_nil, hd, hs, hr]
  exact h
end Ri
def imgI (os : List OV) : Option (List Int) := (imgR os).map fun L => L.map intOf
theorem imgI_some {os : List OV} {ys : List Int} (h : imgR os = some (ys.map (Value.int .u8))) : imgI os = some ys := by
  unfold imgI
  rw [h]
  simp only [Option.map_some, List.map_map]
  congr 1
  conv => rhs; rw [← List.map_id ys]
  rfl
theorem imgI_none {os : List OV} (h : imgR os = none) : imgI os = none := by unfold imgI; rw [h]; rfl
/-- the error of Patch -/
def patE (n : Nat) (os : List OV) (i : Int) (o : OV) (xs : List Int) : Nat :=
  if changeE n os i o ≠ 0 then changeE n os i o else match os[i.toNat]? with
    | none => 0
    | some p => if canB os i.toNat o p = true then (if imgI os = some xs then 0 else 10) else 7
def PatP (w : World) (xs : List Int) (n : Nat) (os : List OV) (i : Int) (o : OV) (e : Ending) (w' : World) : Prop :=
  Q w w' ∧ ∃ v, e = .returned (.tuple #[v, .int .i64 (patE n os i o xs : Nat)]) ∧ ((patE n os i o xs ≠ 0 ∧ v = .slice none 0 0) ∨ (patE n os i o xs = 0 ∧ ∃ L N, imgR (os.set i.toNat o) = some L ∧ w'.ownsRow w.heap.size 5 1 v N L))
theorem change_ok {n : Nat} {os : List OV} {i : Int} {o : OV} (h : changeE n os i o = 0) : listedO os = 0 ∧ 0 ≤ i ∧ i < n ∧ o.valid = 0 := by
  unfold changeE at h
  split at h
  · rename_i h1; exact absurd h h1
  · rename_i h1
    split at h
    · rename_i h2; exact ⟨by omega, h2.1, h2.2, h⟩
    · cases h
theorem can_room {os : List OV} {i : Nat} {o p : OV} (h : canB os i o p = true) : room o.1.n = room p.1.n := by
  unfold canB at h
  simp only [Bool.and_eq_true] at h
  exact eq_of_beq h.1
theorem Sl.kept_g {α : Type} {k : Nat} {enc : α → List Value} {w w' : World} {b n c g : Nat} {xs : List α} (h : Sl k enc w (some ⟨b, 0, none⟩) n c xs) (hg : w.grownBy w' (some g)) (hne : g ≠ b) : Sl k enc w' (some ⟨b, 0, none⟩) n c xs := by
  refine ⟨?_, h.len, h.cap, h.most⟩
  rcases h.rd with h1 | ⟨b', o', e, hb, hc⟩
  · exact .inl h1
  · cases e
    refine .inr ⟨b, 0, rfl, Nat.lt_of_lt_of_le hb hg.size, fun j u hu => ?_⟩
    rw [World.cell?, hg.block b hb (fun e => by injection e with e; exact hne e.symm)]
    exact hc j u hu
set_option maxRecDepth 100000 in
set_option maxHeartbeats 4000000 in
theorem Patch_any (l : SlV Int) (A : Option Addr) (n c : Nat) (os : List OV) (i : Int) (o : OV) (w : World) (hb : B8 w l) (hO : ObsR w A n c os) (ho : ObR w o) (hln : l.n ≤ 1000000) : Calls Try.prog 16 #[l.val, .slice A n c, .int .i64 i, obV o] w (PatP w l.xs n os i o) := by
  have HB := hide hb
  have HLB := hide hln
  have HO := hide hO
  have HOB := hide ho
  have hl := hO.sl.len
  obtain ⟨xs, hxs⟩ : ∃ xs, l.xs = xs := ⟨_, rfl⟩
  rw [hxs]
  have HXS := hide hxs
  have hlen := hb.sl.len
  obtain ⟨o0, ho0⟩ : ∃ o0, o0 = o := ⟨_, rfl⟩
  obtain ⟨lA, ln, lc, lx⟩ := l
  obtain ⟨⟨A0, n0, c0, bs⟩, ⟨A1, n1, c1, ss⟩, ⟨A2, n2, c2, ws⟩⟩ := o
  obtain ⟨w1, hw1⟩ : ∃ w1, w.alloc (.cells #[.slice A0 n0 c0, .slice A1 n1 c1, .slice A2 n2 c2] 34) = w1 := ⟨_, rfl⟩
  have hq1 : Q w w1 := by rw [← hw1]; exact (Q.refl w).alloc _
  have k0 : w1.cell? ⟨w.heap.size, 0, none⟩ = some (.slice A0 n0 c0) := by rw [← hw1]; simp
  have k1 : w1.cell? ⟨w.heap.size, 1, none⟩ = some (.slice A1 n1 c1) := by rw [← hw1]; simp
  have k2 : w1.cell? ⟨w.heap.size, 2, none⟩ = some (.slice A2 n2 c2) := by rw [← hw1]; simp
  have HBG := hide (begin_any A n c os i _ w1 (hO.up hq1) (ho.up hq1))
  unfold PatP
  rw [← ho0] at HBG HOB ⊢
  have HOZ := hide ho0
  obtain ⟨pe, hpe⟩ : ∃ pe, patE n os i o0 xs = pe := ⟨_, rfl⟩
  rw [hpe]
  have HPE := hide hpe
  have HQ1 := hide hq1
  have HW1 := hide hw1
  have hz1 : w.heap.size ≤ w1.heap.size := hq1.size
  have HLL := hide hl
  have HLN := hide hlen
  rw [ho0]
  rw [ho0] at HBG
  unfold obV SlV.val
  unfold obV SlV.val at HBG
  dsimp only at HBG ⊢
  rw [← ho0] at HBG
  clear hb hO ho hl hln hxs hpe hq1 hw1 hlen
  go_enter Try.func16, Try.ntmps16
  go_wp2_with fail
  rw [HW1.out]
  clear k0 k1 k2 ho0
  refine HBG.out.mono ?_
  rintro e w2 ⟨hq2, hcase⟩
  rcases hcase with ⟨hne, rfl⟩ | ⟨h0, As, cs, mb, he, ⟨B2', hB2, hown2⟩, hmp⟩
  · obtain ⟨ce, hce⟩ : ∃ ce, changeE n os i o0 = ce := ⟨_, rfl⟩
    have hpce : pe = ce := by rw [← HPE.out]; unfold patE; rw [if_pos hne, hce]
    rw [hce] at hne ⊢
    have d1 : ((ce : Int) != 0) = true := by simp; omega
    have HNE := hide hne
    have HPC := hide hpce
    clear hne hce hpce
    go_wp2_with fail
    go_ret2
    exact ⟨(HQ1.out.trans hq2).alloc _, _, by rw [HPC.out]; rfl, .inl ⟨by rw [HPC.out]; exact HNE.out, rfl⟩⟩
  · rw [HOZ.out] at he
    unfold SlV.val at he
    dsimp only at he
    subst he
    obtain ⟨hl0, hi0, hi1, hov⟩ := change_ok h0
    obtain ⟨k, rfl⟩ : ∃ k : Nat, i = (k : Int) := ⟨i.toNat, by omega⟩
    have hk : k < n := by omega
    obtain ⟨h8, hv⟩ := listed_zero2 hl0
    have hn8 : n ≤ 8 := by have := HLL.out; omega
    obtain ⟨p, hp⟩ : ∃ p, os[k]? = some p := ⟨_, List.getElem?_eq_getElem (by have := HLL.out; omega)⟩
    have hpe2 : pe = if canB os k o0 p = true then (if imgI os = some xs then 0 else 10) else 7 := by
      rw [← HPE.out]
      unfold patE
      rw [if_neg (by simp [h0]), Int.toNat_natCast, hp]
    obtain ⟨cb, hcb⟩ : ∃ cb, canB os k o0 p = cb := ⟨_, rfl⟩
    obtain ⟨As', cs', e', h1, hc, _, hr⟩ := own_form hown2
    cases e'
    obtain ⟨w3, hw3⟩ : ∃ w3, w2.alloc (.cells #[.slice A n c, .slice As (n + 1) cs, .map (some mb), .int .i64 ((k : Nat) : Int), .slice A0 n0 c0, .slice A1 n1 c1, .slice A2 n2 c2] 83) = w3 := ⟨_, rfl⟩
    have hq3 : Q w2 w3 := by rw [← hw3]; exact (Q.refl w2).alloc _
    have hb3 : w3.heap[w2.heap.size]? = some (.cells #[.slice A n c, .slice As (n + 1) cs, .map (some mb), .int .i64 ((k : Nat) : Int), .slice A0 n0 c0, .slice A1 n1 c1, .slice A2 n2 c2] 83 (0, 0)) := by rw [← hw3]; exact heap_alloc_new w2 _
    have hs3 : w2.heap.size < w3.heap.size := by rw [← hw3]; simp
    have k0 : w3.cell? ⟨w2.heap.size, 0, none⟩ = some (.slice A n c) := cell_blkJ (j := 0) hb3 rfl
    have k1 : w3.cell? ⟨w2.heap.size, 1, none⟩ = some (.slice As (n + 1) cs) := cell_blkJ (j := 1) hb3 rfl
    have k2 : w3.cell? ⟨w2.heap.size, 2, none⟩ = some (.map (some mb)) := cell_blkJ (j := 2) hb3 rfl
    have k3 : w3.cell? ⟨w2.heap.size, 3, none⟩ = some (.int .i64 ((k : Nat) : Int)) := cell_blkJ (j := 3) hb3 rfl
    have k4 : w3.cell? ⟨w2.heap.size, 4, none⟩ = some (.slice A0 n0 c0) := cell_blkJ (j := 4) hb3 rfl
    have k5 : w3.cell? ⟨w2.heap.size, 5, none⟩ = some (.slice A1 n1 c1) := cell_blkJ (j := 5) hb3 rfl
    have k6 : w3.cell? ⟨w2.heap.size, 6, none⟩ = some (.slice A2 n2 c2) := cell_blkJ (j := 6) hb3 rfl
    have HQ3 := hide ((HQ1.out.trans hq2).trans hq3)
    have HQ13 := hide (hq2.trans hq3)
    have HAF := hide (after_any A n c os As cs mb k o0 p w3 (HO.out.up HQ3.out) (HOB.out.up HQ3.out) hk hn8 hp hv hov)
    have HSX := hide (fun W (h : Q w3 W) => stretches_any A n c os As cs mb k o0 p W (HO.out.up (HQ3.out.trans h)) (HOB.out.up (HQ3.out.trans h)) hk hn8 hp hv hov ((hr.up hq3).up h) h1)
    have HIM := hide (fun W (h : Q w3 W) => image_any A n c os As cs mb W (HO.out.up (HQ3.out.trans h)) hn8 hv ((hr.up hq3).up h) h1 ((hmp.up hq3).up h))
    rw [HOZ.out] at HAF HSX
    unfold SlV.val at HAF HSX
    dsimp only at HAF HSX
    rw [← HOZ.out] at HAF HSX
    have HK0 := hide k0
    have HK1 := hide k1
    have HK2 := hide k2
    have HK3 := hide k3
    have HK4 := hide k4
    have HK5 := hide k5
    have HK6 := hide k6
    have HW3 := hide hw3
    have HP := hide hp
    have HV := hide hv
    have HOV := hide hov
    have HPE2 := hide hpe2
    have HCB := hide hcb
    have d0 : ((0 : Int) != 0) = false := rfl
    have hb32 : w2.heap.size ≤ w3.heap.size := hq3.size
    have hz2 : w1.heap.size ≤ w2.heap.size := hq2.size
    clear hcb hpe2 hw3 hq3 hb3 hr h1 hc hown2 hmp hv hov hl0 hi0 hi1 h0 hq2 HBG hp
    go_wp2_with fail
    rw [HW3.out]
    go_wp2_with fail
    refine HAF.out.mono ?_
    rintro e w4 ⟨hq4, X, xn, xc, Y, yn, yc, mo, v, rfl, hcan⟩
    rw [HCB.out] at hcan ⊢
    have HQ34 := hide hq4
    have HQ4 := hide (HQ3.out.trans hq4)
    clear k0 k1 k2 k3 k4 k5 k6 hq4
    cases cb with
    | false =>
      have HP7 := hide (show pe = 7 by rw [HPE2.out, HCB.out]; rfl)
      clear hcan
      go_wp2_with fail
      go_ret2
      exact ⟨HQ4.out.alloc _, _, by rw [HP7.out]; rfl, .inl ⟨by rw [HP7.out]; decide, rfl⟩⟩
    | true =>
      obtain ⟨M, N', hM, hmade⟩ := hcan rfl
      have HP8 := hide (show pe = if imgI os = some xs then 0 else 10 by rw [HPE2.out, HCB.out]; rfl)
      have HM := hide hM
      have HMADE := hide hmade
      have HRM := hide (can_room HCB.out)
      obtain ⟨w5, hw5⟩ : ∃ w5, w4.alloc (.cells #[.slice X xn xc, .slice Y yn yc, .map mo] 78) = w5 := ⟨_, rfl⟩
      have hq5 : Q w4 w5 := by rw [← hw5]; exact (Q.refl w4).alloc _
      have HQ35 := hide (HQ34.out.trans hq5)
      have HQ5 := hide (HQ4.out.trans hq5)
      have HIM5 := hide (HIM.out w5 HQ35.out)
      have k0 := (HQ35.out.facts.1 _ 0 hs3).trans HK0.out
      have k1 := (HQ35.out.facts.1 _ 1 hs3).trans HK1.out
      have k2 := (HQ35.out.facts.1 _ 2 hs3).trans HK2.out
      have HW5 := hide hw5
      have HQ45 := hide hq5
      clear hcan hM hmade hw5 hq5 HPE2
      go_upto_region 7 with fail
      rw [HW5.out]
      go_wp2_with fail
      refine HIM5.out.mono ?_
      rintro e w6 ⟨hq6, hcase⟩
      have HQ36 := hide (HQ35.out.trans hq6)
      have HQ6 := hide (HQ5.out.trans hq6)
      have HQ46 := hide (HQ45.out.trans hq6)
      clear k0 k1 k2
      rcases hcase with ⟨hnn, rfl⟩ | ⟨L, v6, N6, hsm, rfl, hown6⟩
      · have HPX := hide (show pe = 10 by rw [HP8.out, if_neg (by rw [imgI_none hnn]; simp)])
        clear hnn hq6
        go_wp2_with fail
        go_ret2
        exact ⟨HQ6.out, _, by rw [HPX.out]; rfl, .inl ⟨by rw [HPX.out]; decide, rfl⟩⟩
      · have hL : imgR os = some L := hsm
        have hByt : Byt L := Byt.img (fun q hq => (HO.out.all q hq).bok) ⟨[], rfl, fun x hx => by cases hx⟩ hsm
        obtain ⟨ys, rfl, hin⟩ := hByt
        have hN6 : N6 = ys.length := by have := hown6.1; simp at this; omega
        subst hN6
        obtain ⟨l6, rfl, hl6x, hl6n, hb6⟩ := B8.own hown6
        have HEQ := hide (fun W (h : Q w6 W) => EqualB_any l6 ⟨lA, ln, lc, lx⟩ W (hb6.up h) (HB.out.up (HQ6.out.trans h)))
        obtain ⟨E6, n6, c6, x6⟩ := l6
        unfold SlV.val at HEQ ⊢
        dsimp only at HEQ hl6x ⊢
        have hxl : lx = xs := HXS.out
        obtain ⟨q, hq⟩ : ∃ q, decide (x6 = lx) = q := ⟨_, rfl⟩
        rw [hq] at HEQ
        have HIMG := hide hL
        have HQQ := hide hq
        have HX6 := hide hl6x
        have HXL := hide hxl
        clear hsm hL hown6 hb6 hl6x hl6n hq6 hin hxl hq
        cases q with
        | false =>
          have HPX := hide (show pe = 10 by
            rw [HP8.out, if_neg]
            intro h9
            rw [imgI_some HIMG.out] at h9
            injection h9 with h9
            have h10 := of_decide_eq_false HQQ.out
            exact h10 (by rw [HX6.out, HXL.out]; exact h9))
          go_wp2_with fail
          refine (HEQ.out _ (Q.refl _)).mono ?_
          rintro e w7 ⟨rfl, hq7⟩
          go_wp2_with fail
          go_ret2
          exact ⟨HQ6.out.trans hq7, _, by rw [HPX.out]; rfl, .inl ⟨by rw [HPX.out]; decide, rfl⟩⟩
        | true =>
          have HIN2 : Hid (∀ q ∈ os.set k o0, In8 q.1.xs) := hide fun q hq => by
            rcases List.mem_or_eq_of_mem_set hq with h9 | h9
            · exact (HO.out.all q h9).bok
            · rw [h9]; exact HOB.out.bok
          have hyx : ys = xs := by have := of_decide_eq_true HQQ.out; rw [HX6.out, HXL.out] at this; exact this
          have HPZ := hide (show pe = 0 by rw [HP8.out, if_pos (by rw [imgI_some HIMG.out, hyx])])
          have HIX := hide (show imgR os = some (xs.map (Value.int .u8)) by rw [HIMG.out, hyx])
          clear hyx
          go_wp2_with fail
          refine (HEQ.out _ (Q.refl _)).mono ?_
          rintro e w7 ⟨rfl, hq7⟩
          have HQ7 := hide (HQ6.out.trans hq7)
          have HQ37 := hide (HQ36.out.trans hq7)
          have HQ47 := hide (HQ46.out.trans hq7)
          have hl9 : ln ≤ 1000000 := HLB.out
          have HCL := hide (CloneB_any ⟨lA, ln, lc, lx⟩ w7 (HB.out.up HQ7.out) hl9)
          unfold SlV.val at HCL
          dsimp only at HCL
          have hle := patch_agr HP.out HRM.out (fun q hq => ⟨HV.out q hq, by have := (HO.out.all q hq).b.len; exact ⟨this, (valid_parts (HO.out.all q hq).s.len (HV.out q hq)).1⟩⟩) ⟨HOV.out, by have := HOB.out.b.len; exact ⟨this, (valid_parts HOB.out.s.len HOV.out).1⟩⟩ HIX.out HM.out (by rw [HLL.out]; exact hn8)
          obtain ⟨hagr, htot, hinb⟩ := hle
          obtain ⟨N, hN⟩ : ∃ N, offF os = N := ⟨_, rfl⟩
          rw [hN] at htot hinb
          have hN8 : 8 ≤ N := by
            have a := offF_succ HP.out
            have b := room_ge p.1.n
            have c := offF_mono os (show k + 1 ≤ os.length by rw [HLL.out]; exact hk)
            rw [List.take_of_length_le (Nat.le_refl _)] at c
            omega
          have hxn : xs.length = N := by simpa using htot
          have hMN : M.length = N := by rw [← hagr.1]; exact htot
          have hN' : N' = N := by have := HMADE.out.1; rw [hMN] at this; omega
          subst hN'
          obtain ⟨h, ch, rfl, hhb, hhl, hhn, hhm, hhc, -⟩ := own_at HMADE.out (by omega)
          have HAGR := hide hagr
          have HINB := hide hinb
          have HMN := hide hMN
          have HXN := hide hxn
          have HN8 := hide hN8
          have HHC := hide hhc
          have HHL := hide hhl
          clear hagr hinb hMN hxn hN8 hhc htot hN HEQ hq7 HMADE
          go_wp2_with fail
          refine HCL.out.mono ?_
          rintro e w8 ⟨v8, rfl, hown8, hq8⟩
          unfold isOwn at hown8
          try dsimp only at hown8
          rw [HXL.out, HXN.out] at hown8
          obtain ⟨g, cg, rfl, hgb, hgl, hgn, hgm, -, -⟩ := own_at hown8 (by have := HN8.out; omega)
          have HQ8 := hide (HQ7.out.trans hq8)
          have HQ38 := hide (HQ37.out.trans hq8)
          have HQ48 := hide (HQ47.out.trans hq8)
          have HQ78 := hide hq8
          have HQ17 := hide (show Q w1 w7 from HQ13.out.trans HQ37.out)
          have HONE : Hid (∀ u ∈ M, u.oneCell' = true) := hide (fun u hu => by
            obtain ⟨zs, hz, -⟩ := (show Byt M from Byt.img (fun q hq => HIN2.out q hq) ⟨[], rfl, fun x hx => by cases hx⟩ (show imgF (tabF 0 0 (os.set k o0)) 0 (os.set k o0) [] = some M from HM.out))
            rw [hz] at hu
            obtain ⟨x, _, rfl⟩ := List.mem_map.1 hu
            rfl)
          have HS8 := hide (HSX.out w8 HQ38.out)
          have k0 := (HQ38.out.facts.1 _ 0 hs3).trans HK0.out
          have k1 := (HQ38.out.facts.1 _ 1 hs3).trans HK1.out
          have k2 := (HQ38.out.facts.1 _ 2 hs3).trans HK2.out
          have k3 := (HQ38.out.facts.1 _ 3 hs3).trans HK3.out
          have k4 := (HQ38.out.facts.1 _ 4 hs3).trans HK4.out
          have k5 := (HQ38.out.facts.1 _ 5 hs3).trans HK5.out
          have k6 := (HQ38.out.facts.1 _ 6 hs3).trans HK6.out
          have HOWN8 := hide hown8
          have HGB := hide hgb
          have HGL := hide hgl
          have hgh : h < g := by have := HHL.out; have := HQ47.out.size; omega
          have HGH := hide hgh
          clear hown8 hq8 hgb hgl hgh HCL
          go_wp2_with fail
          refine HS8.out.mono ?_
          rintro e w9 ⟨hq9, ts, sg, sc, hperm, hsort, rfl, hsgb, hsl⟩
          obtain ⟨S, hS⟩ : ∃ S, mergeS ts = S := ⟨_, rfl⟩
          have hcov : ∀ j, Cov S j ↔ Cov (rawTo os k (wantS o0 p) os.length) j := fun j => by
            rw [← hS, cov_merge hsort]
            unfold Cov
            constructor
            · rintro ⟨s, h1, h2⟩; exact ⟨s, hperm.mem_iff.1 h1, h2⟩
            · rintro ⟨s, h1, h2⟩; exact ⟨s, hperm.mem_iff.2 h1, h2⟩
          have hsb : InB N' S := by
            rw [← hS]
            exact inb_merge fun s hs => HINB.out s (hperm.mem_iff.1 hs)
          rw [hS] at hsl ⊢
          obtain ⟨m, hm⟩ : ∃ m, S.length = m := ⟨_, rfl⟩
          rw [hm] at hsl ⊢
          have hmi : (m : Int) ≤ 9223372036854775807 := by have := hsl.cap; have := hsl.most; omega
          have HSM := hide hm
          have HCOV := hide hcov
          have HSB := hide hsb
          have HSL := hide hsl
          have HQ9 := hide (HQ8.out.trans hq9)
          have HQ89 := hide hq9
          have HOWN9 := hide (own_q HOWN8.out hq9)
          have HSG : Hid (g < sg) := hide (by have := HGL.out; omega)
          clear k0 k1 k2 k3 k4 k5 k6 hq9 hperm hsort hS hcov hsb hsl hm HS8
          go_wp2_with fail
          go_loopw [56] (fun vi wx => ∃ (j : Nat) (cur : List Value), j ≤ m ∧ vi = .int .i64 j ∧ cur.length = N' ∧ (∀ i : Nat, cur[i]? = (xs.map (Value.int .u8))[i]? ∨ cur[i]? = M[i]?) ∧ (∀ i : Nat, Cov (S.take j) i → cur[i]? = M[i]?) ∧ Q w1 wx ∧ (∀ (i : Nat) (u : Value), M[i]? = some u → wx.cell? ⟨h, i, none⟩ = some u) ∧ h < wx.heap.size ∧ Sl 2 encP wx (some ⟨sg, 0, none⟩) m sc S ∧ wx.ownsRow w7.heap.size 5 1 (.slice (some ⟨g, 0, none⟩) N' cg) N' cur) (fun vi _ => m - (intOf vi).toNat)
          case atStart => exact ⟨0, _, by omega, by go_num, by simp [HXN.out], fun i => .inl rfl, fun i hc => by obtain ⟨s, hs, -⟩ := hc; simp at hs, (by have := HQ37.out; exact (HQ13.out.trans HQ37.out).trans ((show Q w7 w8 from HQ78.out).trans HQ89.out)), fun i u hu => ((HQ48.out.trans HQ89.out).facts.1 _ _ HHL.out).trans (HHC.out i u hu), (by have := HHL.out; have := HQ48.out.size; have := HQ89.out.size; omega), HSL.out, HOWN9.out⟩
          case round =>
            obtain ⟨j, cur, hj, rfl, hcl, hc1, hc2, hqx, hmx, hhx, hslx, hox⟩ := hrel
            obtain ⟨wx, rfl⟩ : ∃ wx : World, wx = wr := ⟨_, rfl⟩
            have HCL := hide hcl
            have HC1 := hide hc1
            have HC2 := hide hc2
            have HQX := hide hqx
            have HMX := hide hmx
            have HSLX := hide hslx
            have HOX := hide hox
            clear hcl hc1 hc2 hqx hmx hslx hox
            by_cases hlt : j < m
            · have hd1 : decide ((j : Int) < (m : Int)) = true := by simp; omega
              have hd0 : decide (j < m) = true := by simp; omega
              have hlti : (j : Int) < (m : Int) := by omega
              obtain ⟨b4, o4, s, e4, hb4, g4, hcells⟩ := HSLX.out.at_ len_encP (by decide) j hlt
              cases e4
              have y0 : wx.cell? ⟨sg, j * 2, none⟩ = some (.int .i64 (s.1.val : Nat)) := by simpa using hcells 0 _ rfl
              have y1 : wx.cell? ⟨sg, j * 2 + 1, none⟩ = some (.int .i64 (s.2.val : Nat)) := by simpa using hcells 1 _ rfl
              have hsin := HSB.out s (List.mem_of_getElem? g4)
              obtain ⟨hab, hbn⟩ := hsin
              obtain ⟨wb, hwb⟩ : ∃ wb, wx.alloc (.cells #[.int .i64 (s.1.val : Nat), .int .i64 (s.2.val : Nat)] 74) = wb := ⟨_, rfl⟩
              have hqb : Q wx wb := by rw [← hwb]; exact (Q.refl wx).alloc _
              have hbb : wb.heap[wx.heap.size]? = some (.cells #[.int .i64 (s.1.val : Nat), .int .i64 (s.2.val : Nat)] 74 (0, 0)) := by rw [← hwb]; exact heap_alloc_new wx _
              have u0 : wb.cell? ⟨wx.heap.size, 0, none⟩ = some (.int .i64 (s.1.val : Nat)) := cell_blkJ (j := 0) hbb rfl
              have u1 : wb.cell? ⟨wx.heap.size, 1, none⟩ = some (.int .i64 (s.2.val : Nat)) := cell_blkJ (j := 1) hbb rfl
              have hxb : wx.heap.size < wb.heap.size := by rw [← hwb]; simp
              have HWB := hide hwb
              have HQB := hide hqb
              have G4 := hide g4
              have hone : ∀ u ∈ M, u.oneCell' = true := fun u hu => HONE.out u hu
              have HCP : Hid (∀ W2, Q wb W2 → ∃ v w', (Builtin.copy_ #[30, 30] 3 #[.slice (if cg = s.1.val then some ⟨g, 0, none⟩ else some ⟨g, s.1.val, none⟩) (s.2.val - s.1.val) (cg - s.1.val), .slice (if ch = s.1.val then some ⟨h, 0, none⟩ else some ⟨h, s.1.val, none⟩) (s.2.val - s.1.val) (ch - s.1.val)]).run Try.prog W2 = .ok v w' ∧ w'.ownsRow w7.heap.size 5 1 (.slice (some ⟨g, 0, none⟩) N' cg) N' (splice cur s.1.val (pieceL M s.1.val s.2.val)) ∧ W2.grownBy w' (some g)) := hide fun W2 hq => by
                have hq2 : Q wx W2 := hqb.trans hq
                exact run_copyB (P := Try.prog) Try.underlying30 (by kernel_rfl) (own_q HOX.out hq2) (fun i u hu => (hq2.facts.1 _ _ hhx).trans (HMX.out i u hu)) HMN.out hone hab hbn hhn _
              have HHX := hide hhx
              clear hwb hqb hbb hcells g4 hone hhx
              go_upto_region 14 with fail
              rw [HWB.out]
              refine Ri.made_last (Ri.phi [Ri.isV (.slice (some ⟨g, 0, none⟩) N' cg), Ri.isV (.pointer (some ⟨wx.heap.size, 0 + 0 * 1, none⟩)), Ri.isV (.int .i64 ((s.1.val : Nat) : Int)), Ri.isV (.pointer (some ⟨wx.heap.size, 0 + 1 * 1, none⟩)), Ri.isV (.int .i64 ((s.2.val : Nat) : Int)), Ri.isV (.slice (if cg = s.1.val then some ⟨g, 0, none⟩ else some ⟨g, s.1.val, none⟩) (s.2.val - s.1.val) (cg - s.1.val)), Ri.isV (.slice (some ⟨h, 0, none⟩) N' ch), Ri.isV (.pointer (some ⟨wx.heap.size, 0 + 0 * 1, none⟩)), Ri.isV (.int .i64 ((s.1.val : Nat) : Int)), Ri.isV (.pointer (some ⟨wx.heap.size, 0 + 1 * 1, none⟩)), Ri.isV (.int .i64 ((s.2.val : Nat) : Int)), Ri.isV (.slice (if ch = s.1.val then some ⟨h, 0, none⟩ else some ⟨h, s.1.val, none⟩) (s.2.val - s.1.val) (ch - s.1.val))]) (by kernel_rfl) (by kernel_rfl) rfl (by kernel_rfl) rfl (Ri.phi_mono ?_) ?_ ?_
              · exact ⟨Ri.mono_isV _, Ri.mono_isV _, Ri.mono_isV _, Ri.mono_isV _, Ri.mono_isV _, Ri.mono_isV _, Ri.mono_isV _, Ri.mono_isV _, Ri.mono_isV _, Ri.mono_isV _, Ri.mono_isV _, Ri.mono_isV _, trivial⟩
              · refine Ri.All.cons ?_ (Ri.All.cons ?_ (Ri.All.cons ?_ (Ri.All.cons ?_ (Ri.All.cons ?_ (Ri.All.cons ?_ (Ri.All.cons ?_ (Ri.All.cons ?_ (Ri.All.cons ?_ (Ri.All.cons ?_ (Ri.All.cons ?_ (Ri.All.cons ?_ (Ri.All.nil))))))))))))
                · refine ⟨rfl, fun f W hq hf A hA hB hO => ?_⟩
                  have e1 := (hB 16 (by kernel_rfl)).trans (show _ = .slice (some ⟨g, 0, none⟩) N' cg by simp [Act.eval])
                  exact Ri.wp_value _ (Ri.run_mv rfl e1) rfl
                · refine ⟨rfl, fun f W hq hf A hA hB hO => ?_⟩
                  have e1 := (hB 18 (by kernel_rfl)).trans (show _ = .pointer (some ⟨wx.heap.size, 0, none⟩) by simp [Act.eval])
                  exact Ri.wp_value _ (Ri.run_aidx (k := 0) rfl e1 rfl Try.underlying74 (sz := 1) (by kernel_rfl) (by decide)) rfl
                · refine ⟨rfl, fun f W hq hf A hA hB hO => ?_⟩
                  have e1 := (hA 61 1 (by kernel_rfl) (by simp)).trans (show f 1 = _ from hf 1 (by kernel_rfl))
                  exact Ri.wp_value _ (Ri.run_ld1 rfl e1 Try.underlying3 rfl ((hq.facts.1 _ 0 hxb).trans u0)) rfl
                · refine ⟨rfl, fun f W hq hf A hA hB hO => ?_⟩
                  have e1 := (hB 18 (by kernel_rfl)).trans (show _ = .pointer (some ⟨wx.heap.size, 0, none⟩) by simp [Act.eval])
                  exact Ri.wp_value _ (Ri.run_aidx (k := 1) rfl e1 rfl Try.underlying74 (sz := 1) (by kernel_rfl) (by decide)) rfl
                · refine ⟨rfl, fun f W hq hf A hA hB hO => ?_⟩
                  have e1 := (hA 63 3 (by kernel_rfl) (by simp)).trans (show f 3 = _ from hf 3 (by kernel_rfl))
                  exact Ri.wp_value _ (Ri.run_ld1 rfl e1 Try.underlying3 rfl ((hq.facts.1 _ 1 hxb).trans u1)) rfl
                · refine ⟨rfl, fun f W hq hf A hA hB hO => ?_⟩
                  have e1 := (hA 60 0 (by kernel_rfl) (by simp)).trans (show f 0 = _ from hf 0 (by kernel_rfl))
                  have e2 := (hA 62 2 (by kernel_rfl) (by simp)).trans (show f 2 = _ from hf 2 (by kernel_rfl))
                  have e3 := (hA 64 4 (by kernel_rfl) (by simp)).trans (show f 4 = _ from hf 4 (by kernel_rfl))
                  exact Ri.wp_value _ (Ri.run_cutlh rfl e1 e2 e3 Try.underlying30 (by kernel_rfl) hab (by omega)) rfl
                · refine ⟨rfl, fun f W hq hf A hA hB hO => ?_⟩
                  have e1 := (hB 13 (by kernel_rfl)).trans (show _ = .slice (some ⟨h, 0, none⟩) N' ch by simp [Act.eval])
                  exact Ri.wp_value _ (Ri.run_mv rfl e1) rfl
                · refine ⟨rfl, fun f W hq hf A hA hB hO => ?_⟩
                  have e1 := (hB 18 (by kernel_rfl)).trans (show _ = .pointer (some ⟨wx.heap.size, 0, none⟩) by simp [Act.eval])
                  exact Ri.wp_value _ (Ri.run_aidx (k := 0) rfl e1 rfl Try.underlying74 (sz := 1) (by kernel_rfl) (by decide)) rfl
                · refine ⟨rfl, fun f W hq hf A hA hB hO => ?_⟩
                  have e1 := (hA 67 7 (by kernel_rfl) (by simp)).trans (show f 7 = _ from hf 7 (by kernel_rfl))
                  exact Ri.wp_value _ (Ri.run_ld1 rfl e1 Try.underlying3 rfl ((hq.facts.1 _ 0 hxb).trans u0)) rfl
                · refine ⟨rfl, fun f W hq hf A hA hB hO => ?_⟩
                  have e1 := (hB 18 (by kernel_rfl)).trans (show _ = .pointer (some ⟨wx.heap.size, 0, none⟩) by simp [Act.eval])
                  exact Ri.wp_value _ (Ri.run_aidx (k := 1) rfl e1 rfl Try.underlying74 (sz := 1) (by kernel_rfl) (by decide)) rfl
                · refine ⟨rfl, fun f W hq hf A hA hB hO => ?_⟩
                  have e1 := (hA 69 9 (by kernel_rfl) (by simp)).trans (show f 9 = _ from hf 9 (by kernel_rfl))
                  exact Ri.wp_value _ (Ri.run_ld1 rfl e1 Try.underlying3 rfl ((hq.facts.1 _ 1 hxb).trans u1)) rfl
                · refine ⟨rfl, fun f W hq hf A hA hB hO => ?_⟩
                  have e1 := (hA 66 6 (by kernel_rfl) (by simp)).trans (show f 6 = _ from hf 6 (by kernel_rfl))
                  have e2 := (hA 68 8 (by kernel_rfl) (by simp)).trans (show f 8 = _ from hf 8 (by kernel_rfl))
                  have e3 := (hA 70 10 (by kernel_rfl) (by simp)).trans (show f 10 = _ from hf 10 (by kernel_rfl))
                  exact Ri.wp_value _ (Ri.run_cutlh rfl e1 e2 e3 Try.underlying30 (by kernel_rfl) hab (by omega)) rfl
              · intro f W2 hq hf A hAe hA hB
                have e1 := (hA 65 5 (by kernel_rfl) (by simp)).trans (show f 5 = _ from hf 5 (by simp))
                have e2 := (hA 71 11 (by kernel_rfl) (by simp)).trans (show f 11 = _ from hf 11 (by simp))
                obtain ⟨vc, w3c, hrun, hoc, hgc⟩ := HCP.out W2 hq
                refine Ri.wp_copyR W2 _ _ _ _ rfl _ _ e1 e2 hrun ⟨_, rfl, ?_⟩
                rw [hAe]
                simp only [Ri.acts, Act.put, List.setIfInBounds_toArray, List.set_cons_zero, List.set_cons_succ, Nat.zero_add, Nat.reduceAdd]
                have HOC := hide hoc
                have HGC := hide hgc
                have HQC := hide hq
                clear hA hB hAe e1 e2 hf hq hrun hoc hgc
                have hq2 : Q wx W2 := HQB.out.trans HQC.out
                have hQ2 : Q w1 W2 := HQX.out.trans hq2
                have hq3 : Q w1 w3c := q_grown hQ2 HGC.out (fun k' e => by cases e; have := HGB.out; have := HQ17.out.size; omega)
                have hsz2 : wx.heap.size ≤ W2.heap.size := hq2.size
                have hhh : W2.heap.size ≤ w3c.heap.size := HGC.out.size
                clear y0 y1 u0 u1
                go_wp2_with fail
                go_roundw
                case rel => exact ⟨j + 1, _, by omega, by go_num, by rw [length_splice _ _ _ (by rw [piece_len (by rw [HMN.out]; exact hbn), HCL.out]; omega)]; exact HCL.out, fun i => by
                    rw [splice_get hab (by rw [HMN.out]; exact hbn) (by rw [HCL.out, HMN.out])]
                    split
                    · exact .inr rfl
                    · exact HC1.out i, fun i hc => by
                    rw [splice_get hab (by rw [HMN.out]; exact hbn) (by rw [HCL.out, HMN.out])]
                    split
                    · rfl
                    · rename_i hni
                      refine HC2.out i ?_
                      rw [List.take_add_one, G4.out] at hc
                      rcases cov_app.1 hc with h1 | h1
                      · exact h1
                      · exact absurd (cov_one.1 h1) hni, hq3, fun i u hu => by
                    rw [World.cell?, HGC.out.block h (by have := HHX.out; omega) (fun e => by injection e with e; have := HGH.out; omega)]
                    exact (hq2.facts.1 _ _ HHX.out).trans (HMX.out i u hu), (by have := HHX.out; omega), (HSLX.out.up hq2).kept_g HGC.out (by have := HSG.out; omega), HOC.out⟩
                case measure => simp [intOf] <;> omega
            · have hd1 : decide ((j : Int) < (m : Int)) = false := by simp; omega
              have hd0 : decide (j < m) = false := by simp; omega
              obtain rfl : j = m := by omega
              have hfin : cur = M := by
                apply List.ext_getElem?
                intro i
                by_cases hc : Cov S i
                · exact HC2.out i (by rw [List.take_of_length_le (by rw [HSM.out]; exact Nat.le_refl _)]; exact hc)
                · rcases HC1.out i with h1 | h1
                  · rw [h1]
                    exact HAGR.out.2 i (fun h2 => hc ((HCOV.out i).2 h2))
                  · exact h1
              have HFIN := hide hfin
              clear hfin
              go_wp2_with fail
              go_ret2
              exact ⟨HQ1.out.trans HQX.out, _, by rw [HPZ.out]; rfl, .inr ⟨HPZ.out, M, N', by rw [Int.toNat_natCast, ← HOZ.out]; exact HM.out, by rw [← HFIN.out]; exact own_base2 HOX.out (by have := HQ7.out.size; omega)⟩⟩
end Go.Proofs.Ytiilkiggfjpibaa
