/- The program's Changed. Conditions: the objects read as such. -/
import Derived.Test.YtiilkiggfjpibaaLinkWa
import Derived.Test.YtiilkiggfjpibaaLinkXa
namespace Go.Proofs.Ytiilkiggfjpibaa
open Go.RowKit LK
set_option linter.unusedVariables false
set_option linter.unusedSimpArgs false
def covB (ts : List St) (n : Nat) : Bool := ts.any fun s => decide (s.1.val ≤ n) && decide (n < s.2.val)
theorem covB_iff {ts : List St} {n : Nat} : covB ts n = true ↔ Cov ts n := by
  unfold covB Cov
  rw [List.any_eq_true]
  constructor
  · rintro ⟨s, h1, h2⟩
    rw [Bool.and_eq_true, decide_eq_true_eq, decide_eq_true_eq] at h2
    exact ⟨s, h1, h2⟩
  · rintro ⟨s, h1, h2⟩
    refine ⟨s, h1, ?_⟩
    rw [Bool.and_eq_true, decide_eq_true_eq, decide_eq_true_eq]
    exact h2
/-- the error of Changed, and what it says -/
def chE (n : Nat) (os : List OV) (i : Int) (o : OV) : Nat := if changeE n os i o ≠ 0 then changeE n os i o else match os[i.toNat]? with
  | none => 0
  | some p => if canB os i.toNat o p = true then 0 else 7
def chX (n : Nat) (os : List OV) (i : Int) (o : OV) : List St := if chE n os i o ≠ 0 then [] else match os[i.toNat]? with
  | none => []
  | some p => runsTo (covB (rawTo os i.toNat (wantS o p) os.length)) (offF os + 1)
theorem chX_no {n : Nat} {os : List OV} {i : Int} {o : OV} (h : chE n os i o ≠ 0) : chX n os i o = [] := by unfold chX; rw [if_pos h]
theorem chX_yes {n : Nat} {os : List OV} {k : Nat} {o p : OV} (h : chE n os (k : Int) o = 0) (hp : os[k]? = some p) : chX n os (k : Int) o = runsTo (covB (rawTo os k (wantS o p) os.length)) (offF os + 1) := by
  unfold chX
  rw [if_neg (by simp [h]), Int.toNat_natCast, hp]
def ChgP (w : World) (n : Nat) (os : List OV) (i : Int) (o : OV) (e : Ending) (w' : World) : Prop :=
  Q w w' ∧ ∃ (A : Option Addr) (c : Nat), e = .returned (.tuple #[.slice A (chX n os i o).length c, .int .i64 (chE n os i o : Nat)]) ∧ Sl 2 encP w' A (chX n os i o).length c (chX n os i o)
theorem raw_ok {os : List OV} {i : Nat} {o p : OV} (hp : os[i]? = some p) (hO : ∀ q ∈ os, q.valid = 0 ∧ q.1.xs.length = q.1.n ∧ q.1.n ≤ 512) (hn : os.length ≤ 8) : ∀ s ∈ rawTo os i (wantS o p) os.length, s.1.val < s.2.val ∧ s.2.val ≤ offF os ∧ offF os ≤ 4352 := by
  have hoff := offF_le (os := os) fun q hq => (hO q hq).2.2
  have hmono : ∀ j, offF (os.take j) ≤ offF os := fun j => by
    rcases Nat.le_total j os.length with h | h
    · have := offF_mono os h
      rwa [List.take_of_length_le (Nat.le_refl _)] at this
    · rw [List.take_of_length_le h]; exact Nat.le_refl _
  have htot : offF os ≤ 4352 := by
    have := hoff os.length
    rw [List.take_of_length_le (Nat.le_refl _)] at this
    omega
  have hfi := hmono i
  have hfj := hmono (i + 1)
  have hfs := offF_succ hp
  have hrg := room_ge p.1.n
  intro s hs
  unfold rawTo at hs
  rcases List.mem_cons.1 hs with rfl | hs
  · obtain ⟨v1, v2⟩ := mk_val (a := offF (os.take i)) (b := offF (os.take (i + 1))) (by omega) (by omega)
    rw [v1, v2]
    omega
  · obtain ⟨j, hj, hs⟩ := List.mem_flatMap.1 hs
    unfold strAt at hs
    cases hq : os[j]? with
    | none => rw [hq] at hs; simp at hs
    | some q =>
      rw [hq] at hs
      dsimp only at hs
      split at hs
      · simp at hs
      · obtain ⟨x, hx, rfl⟩ := List.mem_map.1 hs
        have a := wnt_at (hO q (List.mem_of_getElem? hq)).1 (List.mem_filter.1 hx).1
        have b := offF_succ hq
        have c := hmono (j + 1)
        have d := room_ge q.1.n
        obtain ⟨v1, v2⟩ := mk_val (a := offF (os.take j) + x.1.toNat) (b := offF (os.take j) + x.1.toNat + 4) (by omega) (by omega)
        rw [v1, v2]
        omega
theorem raw_tot {os : List OV} {i : Nat} {f : Wnt → Bool} (h : ∀ s ∈ rawTo os i f os.length, s.1.val < s.2.val ∧ s.2.val ≤ offF os ∧ offF os ≤ 4352) : offF os ≤ 4352 := (h (mkSt (offF (os.take i)) (offF (os.take (i + 1)))) (List.mem_cons_self ..)).2.2
set_option maxRecDepth 100000 in
set_option maxHeartbeats 4000000 in
theorem Changed_any (A : Option Addr) (n c : Nat) (os : List OV) (i : Int) (o : OV) (w : World) (hO : ObsR w A n c os) (ho : ObR w o) : Calls Try.prog 43 #[.slice A n c, .int .i64 i, obV o] w (ChgP w n os i o) := by
  have HO := hide hO
  have HOB := hide ho
  have hl := hO.sl.len
  obtain ⟨o0, ho0⟩ : ∃ o0, o0 = o := ⟨_, rfl⟩
  obtain ⟨⟨A0, n0, c0, bs⟩, ⟨A1, n1, c1, ss⟩, ⟨A2, n2, c2, ws⟩⟩ := o
  obtain ⟨w1, hw1⟩ : ∃ w1, w.alloc (.cells #[.slice A0 n0 c0, .slice A1 n1 c1, .slice A2 n2 c2] 34) = w1 := ⟨_, rfl⟩
  have hq1 : Q w w1 := by rw [← hw1]; exact (Q.refl w).alloc _
  have k0 : w1.cell? ⟨w.heap.size, 0, none⟩ = some (.slice A0 n0 c0) := by rw [← hw1]; simp
  have k1 : w1.cell? ⟨w.heap.size, 1, none⟩ = some (.slice A1 n1 c1) := by rw [← hw1]; simp
  have k2 : w1.cell? ⟨w.heap.size, 2, none⟩ = some (.slice A2 n2 c2) := by rw [← hw1]; simp
  have HBG := hide (begin_any A n c os i _ w1 (hO.up hq1) (ho.up hq1))
  unfold ChgP
  rw [← ho0] at HBG HOB ⊢
  have HOZ := hide ho0
  obtain ⟨ce, hce⟩ : ∃ ce, chE n os i o0 = ce := ⟨_, rfl⟩
  obtain ⟨cx, hcx⟩ : ∃ cx, chX n os i o0 = cx := ⟨_, rfl⟩
  rw [hce, hcx]
  have HCE := hide hce
  have HCX := hide hcx
  have HQ1 := hide hq1
  have HW1 := hide hw1
  have HLL := hide hl
  rw [ho0]
  rw [ho0] at HBG
  unfold obV SlV.val
  unfold obV SlV.val at HBG
  dsimp only at HBG ⊢
  rw [← ho0] at HBG
  clear hO ho hl hce hcx hq1 hw1
  go_enter Try.func43, Try.ntmps43
  go_wp2_with fail
  rw [HW1.out]
  clear k0 k1 k2 ho0
  refine HBG.out.mono ?_
  rintro e w2 ⟨hq2, hcase⟩
  rcases hcase with ⟨hne, rfl⟩ | ⟨h0, As, cs, mb, he, ⟨B2', hB2, hown2⟩, hmp⟩
  · obtain ⟨c0', hc0'⟩ : ∃ c0', changeE n os i o0 = c0' := ⟨_, rfl⟩
    have hcc : ce = c0' := by rw [← HCE.out]; unfold chE; rw [if_pos hne, hc0']
    have hcn : cx = [] := by rw [← HCX.out]; exact chX_no (by rw [HCE.out, hcc, ← hc0']; exact hne)
    rw [hc0'] at hne ⊢
    have d1 : ((c0' : Int) != 0) = true := by simp; omega
    have HCC := hide hcc
    have HCN := hide hcn
    clear hne hc0' hcc hcn
    go_wp2_with fail
    go_ret2
    exact ⟨(HQ1.out.trans hq2).alloc _, none, 0, by rw [HCC.out, HCN.out]; rfl, by rw [HCN.out]; exact Sl.nil _⟩
  · rw [HOZ.out] at he
    unfold SlV.val at he
    dsimp only at he
    subst he
    obtain ⟨hl0, hi0, hi1, hov⟩ := change_ok h0
    obtain ⟨k, rfl⟩ : ∃ k : Nat, i = (k : Int) := ⟨i.toNat, by omega⟩
    have hk : k < n := by omega
    obtain ⟨h8, hv⟩ := listed_zero2 hl0
    have hn8 : n ≤ 8 := by have := HLL.out; omega
    obtain ⟨p, hp⟩ : ∃ p, os[k]? = some p := ⟨_, List.getElem?_eq_getElem (by have := HLL.out; omega)⟩
    have hce2 : ce = if canB os k o0 p = true then 0 else 7 := by
      rw [← HCE.out]
      unfold chE
      rw [if_neg (by simp [h0]), Int.toNat_natCast, hp]
    obtain ⟨cb, hcb⟩ : ∃ cb, canB os k o0 p = cb := ⟨_, rfl⟩
    obtain ⟨As', cs', e', h1, hc, _, hr⟩ := own_form hown2
    cases e'
    obtain ⟨w3, hw3⟩ : ∃ w3, w2.alloc (.cells #[.slice A n c, .slice As (n + 1) cs, .map (some mb), .int .i64 ((k : Nat) : Int), .slice A0 n0 c0, .slice A1 n1 c1, .slice A2 n2 c2] 83) = w3 := ⟨_, rfl⟩
    have hq3 : Q w2 w3 := by rw [← hw3]; exact (Q.refl w2).alloc _
    have hb3 : w3.heap[w2.heap.size]? = some (.cells #[.slice A n c, .slice As (n + 1) cs, .map (some mb), .int .i64 ((k : Nat) : Int), .slice A0 n0 c0, .slice A1 n1 c1, .slice A2 n2 c2] 83 (0, 0)) := by rw [← hw3]; exact heap_alloc_new w2 _
    have k0 : w3.cell? ⟨w2.heap.size, 0, none⟩ = some (.slice A n c) := cell_blkJ (j := 0) hb3 rfl
    have k1 : w3.cell? ⟨w2.heap.size, 1, none⟩ = some (.slice As (n + 1) cs) := cell_blkJ (j := 1) hb3 rfl
    have k2 : w3.cell? ⟨w2.heap.size, 2, none⟩ = some (.map (some mb)) := cell_blkJ (j := 2) hb3 rfl
    have k3 : w3.cell? ⟨w2.heap.size, 3, none⟩ = some (.int .i64 ((k : Nat) : Int)) := cell_blkJ (j := 3) hb3 rfl
    have k4 : w3.cell? ⟨w2.heap.size, 4, none⟩ = some (.slice A0 n0 c0) := cell_blkJ (j := 4) hb3 rfl
    have k5 : w3.cell? ⟨w2.heap.size, 5, none⟩ = some (.slice A1 n1 c1) := cell_blkJ (j := 5) hb3 rfl
    have k6 : w3.cell? ⟨w2.heap.size, 6, none⟩ = some (.slice A2 n2 c2) := cell_blkJ (j := 6) hb3 rfl
    have HQ3 := hide ((HQ1.out.trans hq2).trans hq3)
    have HAF := hide (after_any A n c os As cs mb k o0 p w3 (HO.out.up HQ3.out) (HOB.out.up HQ3.out) hk hn8 hp hv hov)
    have HSX := hide (fun W (h : Q w3 W) => stretches_any A n c os As cs mb k o0 p W (HO.out.up (HQ3.out.trans h)) (HOB.out.up (HQ3.out.trans h)) hk hn8 hp hv hov ((hr.up hq3).up h) h1)
    have HRO := hide (raw_ok (o := o0) hp (fun q hq => ⟨hv q hq, (HO.out.all q hq).b.len, (valid_parts (HO.out.all q hq).s.len (hv q hq)).1⟩) (by rw [HLL.out]; exact hn8))
    rw [HOZ.out] at HAF HSX
    unfold SlV.val at HAF HSX
    dsimp only at HAF HSX
    rw [← HOZ.out] at HAF HSX
    have hs3 : w2.heap.size < w3.heap.size := by rw [← hw3]; simp
    have HK0 := hide k0
    have HK1 := hide k1
    have HK2 := hide k2
    have HK3 := hide k3
    have HK4 := hide k4
    have HK5 := hide k5
    have HK6 := hide k6
    have HP := hide hp
    have HCB := hide hcb
    have HW3 := hide hw3
    have HC2 := hide hce2
    have d0 : ((0 : Int) != 0) = false := rfl
    clear hce2 hcb hw3 hc hr h1 hq3 hb3 hown2 hmp hv hov hl0 hi0 hi1 h0 hq2 HBG hp
    go_wp2_with fail
    rw [HW3.out]
    go_wp2_with fail
    refine HAF.out.mono ?_
    rintro e w4 ⟨hq4, X, xn, xc, Y, yn, yc, mo, v, rfl, hcan⟩
    rw [HCB.out]
    have HQ4 := hide (HQ3.out.trans hq4)
    have HQ34 := hide hq4
    clear k0 k1 k2 k3 k4 k5 k6 hq4 hcan
    cases cb with
    | false =>
      have hc7 : ce = 7 := by rw [HC2.out, HCB.out]; rfl
      have hcn : cx = [] := by rw [← HCX.out]; exact chX_no (by rw [HCE.out, hc7]; decide)
      have HC7 := hide hc7
      have HCN := hide hcn
      clear hc7 hcn
      go_wp2_with fail
      go_ret2
      exact ⟨HQ4.out.alloc _, none, 0, by rw [HC7.out, HCN.out]; rfl, by rw [HCN.out]; exact Sl.nil _⟩
    | true =>
      have hc0 : ce = 0 := by rw [HC2.out, HCB.out]; rfl
      have hcx : cx = runsTo (covB (rawTo os k (wantS o0 p) os.length)) (offF os + 1) := by rw [← HCX.out]; exact chX_yes (HCE.out.trans hc0) HP.out
      have HC0 := hide hc0
      have HCR := hide hcx
      obtain ⟨w5, hw5⟩ : ∃ w5, w4.alloc (.cells #[.slice X xn xc, .slice Y yn yc, .map mo] 78) = w5 := ⟨_, rfl⟩
      have hq5 : Q w4 w5 := by rw [← hw5]; exact (Q.refl w4).alloc _
      have HQ35 := hide (HQ34.out.trans hq5)
      have HQ5 := hide (HQ4.out.trans hq5)
      have HS5 := hide (HSX.out w5 HQ35.out)
      have k0 := (HQ35.out.facts.1 _ 0 hs3).trans HK0.out
      have k1 := (HQ35.out.facts.1 _ 1 hs3).trans HK1.out
      have k2 := (HQ35.out.facts.1 _ 2 hs3).trans HK2.out
      have k3 := (HQ35.out.facts.1 _ 3 hs3).trans HK3.out
      have k4 := (HQ35.out.facts.1 _ 4 hs3).trans HK4.out
      have k5 := (HQ35.out.facts.1 _ 5 hs3).trans HK5.out
      have k6 := (HQ35.out.facts.1 _ 6 hs3).trans HK6.out
      have HW5 := hide hw5
      clear hc0 hcx hw5 hq5
      go_upto_region 7 with fail
      rw [HW5.out]
      go_wp2_with fail
      refine HS5.out.mono ?_
      rintro e w6 ⟨hq6, ts, sg, sc, hperm, hsort, rfl, hsgb, hsl⟩
      have hmr : mergeS ts = cx := by
        rw [HCR.out]
        refine merge_runs hsort (fun s hs => (HRO.out s (hperm.mem_iff.1 hs)).1) (by have := raw_tot HRO.out; omega) fun n => ?_
        rw [covB_iff]
        constructor
        · rintro ⟨-, s, h1, h2⟩
          exact ⟨s, hperm.mem_iff.2 h1, h2⟩
        · rintro ⟨s, h1, h2⟩
          have h3 := hperm.mem_iff.1 h1
          have h4 := HRO.out s h3
          exact ⟨by omega, s, h3, h2⟩
      have HMR := hide hmr
      have HSL := hide hsl
      have HQ6 := hide (HQ5.out.trans hq6)
      clear hperm hsort hsl hmr hq6 k0 k1 k2 k3 k4 k5 k6
      go_wp2_with fail
      go_ret2
      refine ⟨HQ6.out, some ⟨sg, 0, none⟩, sc, ?_, ?_⟩
      · rw [HC0.out, ← HMR.out]; rfl
      · rw [← HMR.out]; exact HSL.out
end Go.Proofs.Ytiilkiggfjpibaa
