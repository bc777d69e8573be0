/- The reference's Changed. Conditions: the objects read as such. -/
import Derived.Test.YtiilkiggfjpibaaLinkXc
namespace Go.Proofs.Ytiilkiggfjpibaa
open Go.RowKit LK
set_option linter.unusedVariables false
set_option linter.unusedSimpArgs false
namespace Ri
theorem run_lssJ {P : Program} {o : Oper} {A : Act} {w : World} {x y : Operand} {t t' : TypeId} {p u : Int} (ho : o.op = .binOp .lss t x y t') (hx : A.eval x = .int .i64 p) (hy : A.eval y = .int .i64 u) (hu : P.underlying t = some (.int .i64)) : (execOp A.eval o).run P w = .ok (.value (.bool (decide (p < u)))) w := by
  unfold execOp
  simp only [ho, hx, hy]
  simp [go_sem]
end Ri
/-- a row of marks -/
def markL (N : Nat) (M : Nat → Bool) : List Value := (List.range N).map fun j => .bool (M j)
theorem mark_get {N : Nat} {M : Nat → Bool} {j : Nat} (h : j < N) : (markL N M)[j]? = some (.bool (M j)) := by
  unfold markL
  rw [List.getElem?_map, List.getElem?_range h]
  rfl
theorem mark_len (N : Nat) (M : Nat → Bool) : (markL N M).length = N := by simp [markL]
theorem mark_set {N t : Nat} {M : Nat → Bool} : (markL N M).set t (.bool true) = markL N (fun j => M j || j == t) := by
  apply List.ext_getElem?
  intro j
  rcases Nat.lt_or_ge j N with h | h
  · by_cases he : t = j
    · subst he
      rw [List.getElem?_set, if_pos rfl, if_pos (by rw [mark_len]; exact h), mark_get h]
      simp
    · rw [List.getElem?_set_ne he, mark_get h, mark_get h]
      have : (j == t) = false := by simp; omega
      rw [this, Bool.or_false]
  · rw [List.getElem?_eq_none (by rw [List.length_set, mark_len]; exact h), List.getElem?_eq_none (by rw [mark_len]; exact h)]
theorem mark_congr {N : Nat} {M M' : Nat → Bool} (h : ∀ j, j < N → M j = M' j) : markL N M = markL N M' := by
  unfold markL
  refine List.map_congr_left fun j hj => ?_
  rw [h j (List.mem_range.1 hj)]
theorem mark_none (N : Nat) : List.replicate N (Value.bool false) = markL N fun _ => false := by
  unfold markL
  rw [List.map_const', List.length_range]
theorem covB_snoc (l : List St) (s : St) (n : Nat) : covB (l ++ [s]) n = (covB l n || (decide (s.1.val ≤ n) && decide (n < s.2.val))) := by
  unfold covB
  rw [List.any_append]
  simp
theorem run_new {M : Nat → Bool} {out : List St} {i : Nat} (h : M i = true) (hp : i = 0 ∨ M (i - 1) = false) : runStep M out i = out ++ [mkSt i (i + 1)] := by unfold runStep; rw [if_pos h, if_pos hp]
theorem run_on {M : Nat → Bool} {init : List St} {l : St} {i : Nat} (h : M i = true) (hp : ¬ (i = 0 ∨ M (i - 1) = false)) : runStep M (init ++ [l]) i = init ++ [(l.1, (mkSt i (i + 1)).2)] := by
  unfold runStep
  rw [if_pos h, if_neg hp, List.getLast?_concat]
  dsimp only
  rw [List.dropLast_concat]
theorem run_off {M : Nat → Bool} {out : List St} {i : Nat} (h : M i = false) : runStep M out i = out := by unfold runStep; rw [if_neg (by rw [h]; decide)]
theorem run_len (M : Nat → Bool) : ∀ i, (runsTo M i).length ≤ i
  | 0 => by simp [runsTo]
  | i + 1 => by
    have ih := run_len M i
    unfold runsTo runStep
    split
    · split
      · simp; omega
      · split
        · simp; omega
        · omega
    · omega
theorem mark_cell {w : World} {B g N c : Nat} {M : Nat → Bool} {i : Nat} {b : Bool} (h : w.ownsRow B 4 1 (.slice (some ⟨g, 0, none⟩) (N + 1) c) (N + 1) (markL (N + 1) M)) (hi : i < N + 1) (hb : M i = b) : w.cell? ⟨g, i, none⟩ = some (.bool b) := by
  obtain ⟨g', c', e, -, -, -, -, hc, -⟩ := own_at h (by omega)
  cases e
  rw [← hb]
  exact hc i _ (mark_get hi)
theorem after_app {w : World} {B : Nat} {v : Value} {l : List St} {a b : Int} (h : w.ownsRow B 74 2 v (l.length + 1) (l.flatMap encP ++ [.int .i64 a, .int .i64 b])) : ∃ g c, v = .slice (some ⟨g, 0, none⟩) (l.length + 1) c ∧ B ≤ g ∧ g < w.heap.size ∧ w.cell? ⟨g, l.length * 2 + 1, none⟩ = some (.int .i64 b) ∧ w.frozen? ⟨g, l.length * 2 + 1, none⟩ = false ∧ ∀ e : Int, (w.setCell ⟨g, l.length * 2 + 1, none⟩ (.int .i64 e)).ownsRow B 74 2 v (l.length + 1) (l.flatMap encP ++ [.int .i64 a, .int .i64 e]) := by
  obtain ⟨g, c, rfl, hb, hl, -, -, hc, hz⟩ := own_at h (by omega)
  have hlen : (l.flatMap encP).length = l.length * 2 := flatMap_length (k := 2) len_encP l
  refine ⟨g, c, rfl, hb, hl, hc _ _ (by rw [List.getElem?_append_right (by omega), hlen, show l.length * 2 + 1 - l.length * 2 = 1 by omega]; rfl), hz _, fun e => ?_⟩
  have h9 := own_set h (l.length * 2 + 1) (.int .i64 e)
  rw [List.set_append_right _ _ (by omega), hlen, show l.length * 2 + 1 - l.length * 2 = 1 by omega] at h9
  exact h9
set_option maxRecDepth 100000 in
set_option maxHeartbeats 4000000 in
theorem rChanged_any (A : Option Addr) (n c : Nat) (os : List OV) (i : Int) (o : OV) (w : World) (hO : ObsR w A n c os) (ho : ObR w o) : Calls Try.prog 44 #[.slice A n c, .int .i64 i, obV o] w (ChgP w n os i o) := by
  have HO := hide hO
  have HOB := hide ho
  have hl := hO.sl.len
  obtain ⟨o0, ho0⟩ : ∃ o0, o0 = o := ⟨_, rfl⟩
  have HCH := hide (fun W (h : Q w W) => changing_any A n c os i o W (hO.up h) (ho.up h))
  have HCA := hide (fun W (h : Q w W) (k : Nat) (p : OV) (h1 : k < n) (h2 : n ≤ 8) (h3 : os[k]? = some p) (h4 : ∀ p ∈ os, p.valid = 0) (h5 : o.valid = 0) => can_any A n c os k o p W (hO.up h) (ho.up h) h1 h2 h3 h4 h5)
  unfold ChgP
  rw [← ho0] at HCH HCA HOB ⊢
  have HOZ := hide ho0
  obtain ⟨⟨A0, n0, c0, bs⟩, ⟨A1, n1, c1, ss⟩, ⟨A2, n2, c2, ws⟩⟩ := o
  obtain ⟨w1, hw1⟩ : ∃ w1, w.alloc (.cells #[.slice A0 n0 c0, .slice A1 n1 c1, .slice A2 n2 c2] 34) = w1 := ⟨_, rfl⟩
  have hq1 : Q w w1 := by rw [← hw1]; exact (Q.refl w).alloc _
  have hs1 : w.heap.size < w1.heap.size := by rw [← hw1]; simp
  have k0 : w1.cell? ⟨w.heap.size, 0, none⟩ = some (.slice A0 n0 c0) := by rw [← hw1]; simp
  have k1 : w1.cell? ⟨w.heap.size, 1, none⟩ = some (.slice A1 n1 c1) := by rw [← hw1]; simp
  have k2 : w1.cell? ⟨w.heap.size, 2, none⟩ = some (.slice A2 n2 c2) := by rw [← hw1]; simp
  obtain ⟨ce, hce⟩ : ∃ ce, changeE n os i o0 = ce := ⟨_, rfl⟩
  obtain ⟨che, hche⟩ : ∃ che, chE n os i o0 = che := ⟨_, rfl⟩
  obtain ⟨cx, hcx⟩ : ∃ cx, chX n os i o0 = cx := ⟨_, rfl⟩
  rw [hce] at HCH
  rw [hche, hcx]
  have HCE := hide hce
  have HCHE := hide hche
  have HCX := hide hcx
  have HQ1 := hide hq1
  have HW1 := hide hw1
  have HLL := hide hl
  have HK0 := hide k0
  have HK1 := hide k1
  have HK2 := hide k2
  have hov : obV o0 = .agg #[.slice A0 n0 c0, .slice A1 n1 c1, .slice A2 n2 c2] := by rw [ho0]; rfl
  rw [hov]
  simp only [hov] at HCH HCA
  have HOV0 := hide hov
  clear hO ho hl hq1 hw1 ho0 hce hche hcx hov
  go_enter Try.func44, Try.ntmps44
  go_wp2_with fail
  rw [HW1.out]
  clear k0 k1 k2
  refine (HCH.out w1 HQ1.out).mono ?_
  rintro e w2 ⟨rfl, hq2⟩
  have HQ2 := hide (HQ1.out.trans hq2)
  have HQ12 := hide hq2
  rcases Nat.eq_zero_or_pos ce with hc0 | hc0
  case inr =>
    have d1 : ((ce : Int) != 0) = true := by simp; omega
    have hcc : che = ce := by rw [← HCHE.out]; unfold chE; rw [HCE.out, if_pos (by omega)]
    have hcn : cx = [] := by rw [← HCX.out]; exact chX_no (by rw [HCHE.out, hcc]; omega)
    have HCC := hide hcc
    have HCN := hide hcn
    clear hc0 hcc hcn hq2
    go_wp2_with fail
    go_ret2
    exact ⟨HQ2.out, none, 0, by rw [HCC.out, HCN.out]; rfl, by rw [HCN.out]; exact Sl.nil _⟩
  have d1 : ((ce : Int) != 0) = false := by rw [hc0]; rfl
  obtain ⟨hl0, hi0, hi1, hov⟩ := change_ok (HCE.out.trans hc0)
  obtain ⟨k, rfl⟩ : ∃ k : Nat, i = (k : Int) := ⟨i.toNat, by omega⟩
  have hk : k < n := by omega
  obtain ⟨h8, hv⟩ := listed_zero2 hl0
  have hn8 : n ≤ 8 := by have := HLL.out; omega
  obtain ⟨p, hp⟩ : ∃ p, os[k]? = some p := ⟨_, List.getElem?_eq_getElem (by have := HLL.out; omega)⟩
  have hch2 : che = if canB os k o0 p = true then 0 else 7 := by
    rw [← HCHE.out]
    unfold chE
    rw [if_neg (by simp [HCE.out, hc0]), Int.toNat_natCast, hp]
  obtain ⟨cb, hcb⟩ : ∃ cb, canB os k o0 p = cb := ⟨_, rfl⟩
  have HCA2 := hide (HCA.out w2 HQ2.out k p hk hn8 hp hv hov)
  rw [hcb] at HCA2
  have hv5 : ∀ q ∈ os, q.1.n ≤ 512 := fun q hq => (valid_parts (HO.out.all q hq).s.len (hv q hq)).1
  have HRO := hide (raw_ok (o := o0) hp (fun q hq => ⟨hv q hq, (HO.out.all q hq).b.len, hv5 q hq⟩) (by rw [HLL.out]; exact hn8))
  have HCB := hide hcb
  have HCH2 := hide hch2
  have HP := hide hp
  have HV := hide hv
  have HV5 := hide hv5
  have HKK := hide hk
  have HN8 := hide hn8
  have hol : o0.2.1.n ≤ 16 := (valid_parts HOB.out.s.len hov).2.1
  have hpl : p.2.1.n ≤ 16 := (valid_parts (HO.out.all p (List.mem_of_getElem? hp)).s.len (hv p (List.mem_of_getElem? hp))).2.1
  have HOL := hide hol
  have HPL := hide hpl
  have k0 := (hq2.facts.1 _ 0 hs1).trans HK0.out
  have k1 := (hq2.facts.1 _ 1 hs1).trans HK1.out
  have k2 := (hq2.facts.1 _ 2 hs1).trans HK2.out
  clear hc0 hl0 hi0 hi1 hov h8 hv hp hch2 hcb hv5 hn8 hol hpl HCA hq2
  go_wp2_with fail
  refine HCA2.out.mono ?_
  rintro e w3 ⟨rfl, hq3⟩
  have HQ3 := hide (HQ2.out.trans hq3)
  have HQ13 := hide (HQ12.out.trans hq3)
  clear hq3 k0 k1 k2
  cases cb with
  | false =>
    have hc7 : che = 7 := by rw [HCH2.out, HCB.out]; rfl
    have hcn : cx = [] := by rw [← HCX.out]; exact chX_no (by rw [HCHE.out, hc7]; decide)
    have HC7 := hide hc7
    have HCN := hide hcn
    clear hc7 hcn
    go_wp2_with fail
    go_ret2
    exact ⟨HQ3.out, none, 0, by rw [HC7.out, HCN.out]; rfl, by rw [HCN.out]; exact Sl.nil _⟩
  | true =>
    have hcz : che = 0 := by rw [HCH2.out, HCB.out]; rfl
    have hcx : cx = runsTo (covB (rawTo os k (wantS o0 p) os.length)) (offF os + 1) := by rw [← HCX.out]; exact chX_yes (HCHE.out.trans hcz) HP.out
    have HCZ := hide hcz
    have HCR := hide hcx
    have HST := hide (rstarts_any A n c os w3 (HO.out.up HQ3.out) (by have := HN8.out; omega) HV5.out)
    clear hcz hcx
    go_wp2_with fail
    refine HST.out.mono ?_
    rintro e w4 ⟨v4, rfl, hown4, hq4⟩
    obtain ⟨ga, ca, rfl, hga1, hga2, hga3, hga4, -, -⟩ := own_at hown4 (by omega)
    have HSK : Hid (∀ j, j ≤ n → w4.cell? ⟨ga, j, none⟩ = some (.int .i64 (offF (os.take j) : Nat))) := hide fun j hj => rows_get hown4 (startsL_get os (n + 1) j (by omega))
    have HQ4 := hide (HQ3.out.trans hq4)
    have HQ14 := hide (HQ13.out.trans hq4)
    obtain ⟨N, hN⟩ : ∃ N, offF os = N := ⟨_, rfl⟩
    have hNt : offF (os.take n) = N := by rw [List.take_of_length_le (by rw [HLL.out]; exact Nat.le_refl _), hN]
    have hNb : N ≤ 4352 := by have := raw_tot HRO.out; omega
    have hNi : (N : Int) ≤ 4352 := by omega
    have sN := HSK.out n (Nat.le_refl _)
    rw [hNt] at sN
    unfold maxLen at hga4
    have hcai : (ca : Int) ≤ 9223372036854775807 := by omega
    have hni : (n : Int) ≤ 8 := by have := HN8.out; omega
    have hnn1 : (n : Int) < (n : Int) + 1 := by omega
    have hnn2 : n < n + 1 := by omega
    have HNN := hide hN
    have HNB := hide hNb
    obtain ⟨fi, hfi⟩ : ∃ fi, offF (os.take k) = fi := ⟨_, rfl⟩
    obtain ⟨fj, hfj⟩ : ∃ fj, offF (os.take (k + 1)) = fj := ⟨_, rfl⟩
    have sI := HSK.out k (by have := HKK.out; omega)
    have sJ := HSK.out (k + 1) HKK.out
    rw [hfi] at sI
    rw [hfj] at sJ
    have hfs := offF_succ HP.out
    rw [hfi, hfj] at hfs
    have hfjN : fj ≤ N := by
      rw [← hfj, ← hN]
      have := offF_mono os (show k + 1 ≤ os.length by rw [HLL.out]; exact HKK.out)
      rwa [List.take_of_length_le (Nat.le_refl _)] at this
    have hfij : fi ≤ fj := by omega
    have hkn : k < n := HKK.out
    have hkni : (k : Int) < (n : Int) := by omega
    have HFI := hide hfi
    have HFJ := hide hfj
    have SI := hide sI
    have SJ := hide sJ
    clear hown4 hq4 hN hNt hNb hfi hfj hfs
    go_wp2_with (at_make; refine wpList_mk rfl _ _ rfl Try.underlying111 (show (Try.prog.info? 4).map (fun i => (i.zero, i.size, i.bytes)) = some (some (.bool false), 1, 1) by kernel_rfl) rfl w4.heap.size (n := N + 1) rfl rfl rfl rfl ?_ ?_ ?_ ?_; (focus omega); (focus omega); (focus exact Nat.le_refl _); intro w5 hown5 hq5 hlt5; have HOW5 := hide hown5; have HQ5 := hide hq5; have s5 : w5.cell? ⟨ga, k, none⟩ = some (.int .i64 (fi : Nat)) := (hq5.facts.1 _ _ hga2).trans sI; clear hown5 hq5)
    clear s5 sN sI sJ
    go_loopw [11] (fun vi wr => ∃ t : Nat, fi ≤ t ∧ t ≤ fj ∧ vi = .int .i64 t ∧ Q w4 wr ∧ wr.ownsRow w4.heap.size 4 1 (.slice (some ⟨w4.heap.size, 0, none⟩) (N + 1) (N + 1)) (N + 1) (markL (N + 1) fun j => decide (fi ≤ j) && decide (j < t))) (fun vi _ => fj - (intOf vi).toNat)
    case atStart => exact ⟨fi, Nat.le_refl _, hfij, by go_num, HQ5.out, by
      have h9 := HOW5.out
      rw [mark_none] at h9
      rw [mark_congr (M' := fun _ => false) (fun j _ => by
        by_cases h1 : fi ≤ j
        · have : decide (j < fi) = false := by simp; omega
          rw [this, Bool.and_false]
        · have : decide (fi ≤ j) = false := by simp; omega
          rw [this, Bool.false_and])]
      exact h9⟩
    case round =>
      obtain ⟨t, ht0, ht1, rfl, hq, hown⟩ := hrel
      have sj : wr.cell? ⟨ga, k + 1, none⟩ = some (.int .i64 (fj : Nat)) := (hq.facts.1 _ _ hga2).trans SJ.out
      have hgr : ga < wr.heap.size := by have := hq.size; omega
      have HQ := hide hq
      have HOW := hide hown
      by_cases hlt : t < fj
      · have hd1 : decide ((t : Int) < (fj : Int)) = true := by simp; omega
        have hd0 : decide (t < fj) = true := by simp; omega
        have hlti : (t : Int) < (fj : Int) := by omega
        obtain ⟨g, cg, eg, hgb, hgl, -, -, hcell, hfz⟩ := own_at hown (by omega)
        cases eg
        have yc := hcell t _ (mark_get (by omega))
        have yf := hfz t
        have htN : (t : Int) < (N : Int) + 1 := by omega
        clear hcell hfz hq hown
        go_wp2_with fail
        go_roundw
        case rel => exact ⟨t + 1, by omega, by omega, by go_num, HQ.out.set (Nat.le_refl _) _, by
          have h9 := own_set HOW.out t (.bool true)
          rw [mark_set] at h9
          rw [mark_congr (M' := fun j => (decide (fi ≤ j) && decide (j < t)) || j == t) (fun j _ => by
            by_cases h1 : fi ≤ j
            · by_cases h2 : j < t
              · have a1 : decide (j < t + 1) = true := by simp; omega
                simp [h1, h2, a1]
              · by_cases h3 : j = t
                · subst h3; simp [h1]
                · have a1 : decide (j < t + 1) = false := by simp; omega
                  have a2 : (j == t) = false := by simp [h3]
                  simp [h1, h2, a1, a2]
            · have a2 : (j == t) = false := by simp; omega
              simp [h1, a2])]
          exact h9⟩
        case measure => simp [intOf] <;> omega
      · have hd1 : decide ((t : Int) < (fj : Int)) = false := by simp; omega
        have hd0 : decide (t < fj) = false := by simp; omega
        obtain rfl : t = fj := by omega
        have hfib : fi < 65536 := by have := HNB.out; omega
        have hfjb : t < 65536 := by have := HNB.out; omega
        have HOW0 : Hid (wr.ownsRow w4.heap.size 4 1 (.slice (some ⟨w4.heap.size, 0, none⟩) (N + 1) (N + 1)) (N + 1) (markL (N + 1) (covB (rawTo os k (wantS o0 p) 0)))) := hide (by
          have h9 := HOW.out
          rw [mark_congr (M' := covB (rawTo os k (wantS o0 p) 0)) (fun j _ => by
            unfold rawTo covB
            rw [HFI.out, HFJ.out]
            obtain ⟨v1, v2⟩ := mk_val hfib hfjb
            simp [v1, v2])] at h9
          exact h9)
        obtain ⟨f0, hf0⟩ : ∃ f0, wantS o0 p = f0 := ⟨_, rfl⟩
        rw [hf0] at HOW0 HCR
        have HF0 : Hid (∀ x : Wnt, f0 x = (hasN o0 x.2.2 || hasN p x.2.2)) := hide fun x => by rw [← hf0]; rfl
        clear hq hown HOW hf0 hfib hfjb
        have HN1 : Hid (∀ nm, hasN o0 nm = ss.any fun y => y.1.toList == nm.toList) := hide fun nm => by rw [HOZ.out]; rfl
        have HN2 : Hid (∀ nm, hasN p nm = p.2.1.xs.any fun y => y.1.toList == nm.toList) := hide fun nm => rfl
        have hos : Sl 2 encSym w A1 n1 c1 ss := by have h := HOB.out.s; rw [HOZ.out] at h; exact h
        have hn1 : n1 ≤ 16 := by have h := HOL.out; rw [HOZ.out] at h; exact h
        have hpo := HO.out.all p (List.mem_of_getElem? HP.out)
        have HH1 := hide (fun W nm (h : Q w W) => hasSymbol_any A0 n0 c0 A1 n1 c1 ss (.slice A2 n2 c2) nm W (hos.up h) (by omega))
        have HH2 := hide (fun W nm (h : Q w W) => hasSymbol_any p.1.A p.1.n p.1.c p.2.1.A p.2.1.n p.2.1.c p.2.1.xs (.slice p.2.2.A p.2.2.n p.2.2.c) nm W (hpo.s.up h) (by have := HPL.out; omega))
        simp only [← HN1.out] at HH1
        simp only [← HN2.out] at HH2
        obtain ⟨h1f, hh1⟩ : ∃ h1f, hasN o0 = h1f := ⟨_, rfl⟩
        obtain ⟨h2f, hh2⟩ : ∃ h2f, hasN p = h2f := ⟨_, rfl⟩
        rw [hh1] at HH1 HF0
        rw [hh2] at HH2 HF0
        obtain ⟨ba, oa, obp, eA, hba0, gp, p1, p2, p3, hobp⟩ := HO.out.at_ k HKK.out
        cases eA
        obtain rfl : obp = p := by have := gp.symm.trans HP.out; injection this
        obtain ⟨⟨B0, m0, d0, bt⟩, ⟨B1, m1, d1, st⟩, ⟨B2, m2, d2, wt⟩⟩ := obp
        dsimp only at p1 p2 p3 HH2
        have O1 := hide p1
        have O2 := hide p2
        have O3 := hide p3
        clear HN1 HN2 hos hn1 hpo hh1 hh2 gp p1 p2 p3 hobp
        go_wp2_with fail
        clear sj
        go_loopw [12] (fun vi wx => ∃ kk : Nat, kk ≤ n ∧ vi = .int .i64 kk ∧ Q w4 wx ∧ wx.ownsRow w4.heap.size 4 1 (.slice (some ⟨w4.heap.size, 0, none⟩) (N + 1) (N + 1)) (N + 1) (markL (N + 1) (covB (rawTo os k f0 kk)))) (fun vi _ => n - (intOf vi).toNat)
        case atStart => exact ⟨0, by omega, by go_num, HQ.out, HOW0.out⟩
        case round =>
          obtain ⟨kk, hkk, rfl, hq, hown⟩ := hrel
          obtain ⟨wo, rfl⟩ : ∃ wo : World, wo = wr := ⟨_, rfl⟩
          have HQO := hide hq
          have HOO := hide hown
          by_cases hltk : kk < n
          · have hd1 : decide ((kk : Int) < (n : Int)) = true := by simp; omega
            have hd0 : decide (kk < n) = true := by simp; omega
            have hlti : (kk : Int) < (n : Int) := by omega
            have HKN := hide hltk
            obtain ⟨b1, o1, ob, e1, hb1, g1, x1, x2, x3, hob⟩ := HO.out.at_ kk hltk
            cases e1
            have HVK := hide (HV.out _ (List.mem_of_getElem? g1))
            obtain ⟨⟨C0, r0, f0c, bq⟩, ⟨C1, r1, f1c, sq⟩, ⟨C2, r2, f2c, wq⟩⟩ := ob
            dsimp only at x1 x2 x3
            have HTQ : Hid (∀ W, Q w W → Sl 3 encWnt W C2 r2 f2c wq) := hide fun W h => ((HO.out.up h).all _ (List.mem_of_getElem? g1)).t
            have htl := hob.t.len
            have htm := hob.t.most
            have htc := hob.t.cap
            have hwl := wnt_len HVK.out
            dsimp only at htl htm htc hwl
            have hr2 : r2 ≤ 16 := by omega
            have hr2i : (r2 : Int) ≤ 16 := by omega
            have G1 := hide g1
            obtain ⟨ofk, hofe⟩ : ∃ ofk, offF (os.take kk) = ofk := ⟨_, rfl⟩
            have hsck := HSK.out kk (Nat.le_of_lt hltk)
            rw [hofe] at hsck
            have hofs := offF_succ g1
            rw [hofe] at hofs
            dsimp only at hofs
            have hofN : ofk + r0 + 8 ≤ N := by
              have h1 := offF_mono os (show kk + 1 ≤ os.length by rw [HLL.out]; exact hltk)
              rw [List.take_of_length_le (Nat.le_refl os.length), HNN.out] at h1
              have h2 := room_ge r0
              omega
            have HOE := hide hofe
            have HOFN := hide hofN
            have HSC3 := hide hsck
            have X3 := hide x3
            obtain ⟨R0, hR0⟩ : ∃ R0, rawTo os k f0 kk = R0 := ⟨_, rfl⟩
            rw [hR0] at HOO
            have HSTA : Hid (strAt os k f0 kk = if kk = k then [] else strW f0 ofk wq) := hide (by unfold strAt; rw [G1.out]; dsimp only; rw [HOE.out])
            have HRS : Hid (rawTo os k f0 (kk + 1) = R0 ++ if kk = k then [] else strW f0 ofk wq) := hide (by rw [rawTo_succ, hR0, HSTA.out])
            clear hob g1 hofe hofs hofN hsck x1 x2 x3 hR0 HSTA htl hwl hq hown HOW0
            go_wp2_with fail
            by_cases hki : kk = k
            · have HKI := hide hki
              have t1 : ((kk : Int) != (k : Int)) = false := by rw [hki]; simp
              clear hki
              go_loopw [13] (fun vj wx => vj = .int .i64 0 ∧ Q w4 wx ∧ wx.ownsRow w4.heap.size 4 1 (.slice (some ⟨w4.heap.size, 0, none⟩) (N + 1) (N + 1)) (N + 1) (markL (N + 1) (covB R0))) (fun vj _ => 0)
              case atStart => exact ⟨by go_num, HQO.out, HOO.out⟩
              case round =>
                obtain ⟨rfl, hqx, hownx⟩ := hrel
                obtain ⟨wx, rfl⟩ : ∃ wx : World, wx = wr := ⟨_, rfl⟩
                have HQX := hide hqx
                have HOX := hide hownx
                have z3 := ((HQ4.out.trans hqx).facts.1 _ _ hb1).trans X3.out
                clear hqx hownx
                rcases Nat.eq_zero_or_pos r2 with h0 | h0
                · have hdj : decide ((0 : Int) < (r2 : Int)) = false := by rw [h0]; rfl
                  have hdn : decide (0 < r2) = false := by rw [h0]; rfl
                  clear h0
                  go_wp2_with fail
                  go_roundw
                  case rel => exact ⟨kk + 1, by omega, by go_num, HQX.out, by rw [HRS.out, if_pos HKI.out, List.append_nil]; exact HOX.out⟩
                  case measure => simp [intOf] <;> omega
                · have hdj : decide ((0 : Int) < (r2 : Int)) = true := by simp; omega
                  have hdn : decide (0 < r2) = true := by simp; omega
                  clear h0
                  go_wp2_with fail
                  go_roundw
                  case rel => exact ⟨kk + 1, by omega, by go_num, HQX.out, by rw [HRS.out, if_pos HKI.out, List.append_nil]; exact HOX.out⟩
                  case measure => simp [intOf] <;> omega
            · have HKI := hide hki
              have t1 : ((kk : Int) != (k : Int)) = true := by simp; omega
              go_loopw [13] (fun vj wx => ∃ j : Nat, j ≤ r2 ∧ vj = .int .i64 j ∧ Q w4 wx ∧ wx.ownsRow w4.heap.size 4 1 (.slice (some ⟨w4.heap.size, 0, none⟩) (N + 1) (N + 1)) (N + 1) (markL (N + 1) (covB (R0 ++ strW f0 ofk (wq.take j))))) (fun vj _ => r2 - (intOf vj).toNat)
              case atStart => exact ⟨0, by omega, by go_num, HQO.out, by simpa [strW] using HOO.out⟩
              case round =>
                obtain ⟨j, hj, rfl, hqx, hownx⟩ := hrel
                obtain ⟨wx, rfl⟩ : ∃ wx : World, wx = wr := ⟨_, rfl⟩
                have HQX := hide hqx
                have HOX := hide hownx
                have z3 := ((HQ4.out.trans hqx).facts.1 _ _ hb1).trans X3.out
                clear hqx hownx
                by_cases hjn : j < r2
                · have hd1 : decide ((j : Int) < (r2 : Int)) = true := by simp; omega
                  have hd0 : decide (j < r2) = true := by simp; omega
                  have hlti : (j : Int) < (r2 : Int) := by omega
                  have hwant := (show Sl 3 encWnt wx C2 r2 f2c wq from HTQ.out wx (HQ4.out.trans HQX.out)).wnt j hjn
                  obtain ⟨b4, o4, at_, kd, nm, e4, hb4, g4, y1w, y2w, y3w⟩ := hwant
                  try dsimp only at e4 y1w y2w y3w g4
                  subst e4
                  have hat := wnt_at HVK.out (List.mem_of_getElem? g4)
                  dsimp only at hat
                  obtain ⟨an, rfl⟩ : ∃ an : Nat, at_ = (an : Int) := ⟨at_.toNat, by omega⟩
                  have hanN : ofk + an + 4 < N + 1 := by have := HOFN.out; omega
                  have HAN := hide hanN
                  have hani : (ofk : Int) + (an : Int) ≤ 5000 := by have := HNB.out; omega
                  have G4 := hide g4
                  obtain ⟨wb, hwb⟩ : ∃ wb, wx.alloc (.cells #[.int .i64 (an : Nat), .int .i64 kd, .string nm] 97) = wb := ⟨_, rfl⟩
                  have hqb : Q wx wb := by rw [← hwb]; exact (Q.refl wx).alloc _
                  have hbb : wb.heap[wx.heap.size]? = some (.cells #[.int .i64 (an : Nat), .int .i64 kd, .string nm] 97 (0, 0)) := by rw [← hwb]; exact heap_alloc_new wx _
                  have V0 := hide (show wb.cell? ⟨wx.heap.size, 0, none⟩ = some (.int .i64 (an : Nat)) from cell_blkJ (j := 0) hbb rfl)
                  have V2 := hide (show wb.cell? ⟨wx.heap.size, 2, none⟩ = some (.string nm) from cell_blkJ (j := 2) hbb rfl)
                  have hxb : wx.heap.size < wb.heap.size := by rw [← hwb]; simp
                  have hxm : w4.heap.size < wx.heap.size := by
                    obtain ⟨gq, cq, eq, hgb, hgl, -, -, -, -⟩ := own_at HOX.out (by omega)
                    cases eq
                    exact hgl
                  have HWB := hide hwb
                  have HQB := hide (HQX.out.trans hqb)
                  have HOB2 := hide (own_q HOX.out hqb)
                  have hft := HF0.out ((an : Int), kd, nm)
                  dsimp only at hft
                  obtain ⟨v1, hv1⟩ : ∃ v1, h1f nm = v1 := ⟨_, rfl⟩
                  obtain ⟨v2, hv2⟩ : ∃ v2, h2f nm = v2 := ⟨_, rfl⟩
                  have HH1 := hide (fun W (h : Q w W) => HH1.out W nm h)
                  have HH2 := hide (fun W (h : Q w W) => HH2.out W nm h)
                  rw [hv1] at HH1 hft
                  rw [hv2] at HH2 hft
                  have HFT0 := hide hft
                  clear hwb hqb hbb g4 hat hanN hft hv1 hv2
                  go_wp2_with fail
                  rw [HWB.out]
                  clear y1w y2w y3w z3
                  cases v1 with
                  | true =>
                    have HFT : Hid (f0 ((an : Int), kd, nm) = true) := hide HFT0.out
                    go_loopw [15] (fun vb W => ∃ b : Nat, b ≤ 4 ∧ vb = .int .i64 b ∧ Q w4 W ∧ wx.heap.size < W.heap.size ∧ W.cell? ⟨wx.heap.size, 0, none⟩ = some (.int .i64 (an : Nat)) ∧ W.cell? ⟨wx.heap.size, 2, none⟩ = some (.string nm) ∧ W.ownsRow w4.heap.size 4 1 (.slice (some ⟨w4.heap.size, 0, none⟩) (N + 1) (N + 1)) (N + 1) (markL (N + 1) fun x => covB (R0 ++ strW f0 ofk (wq.take j)) x || (decide (ofk + an ≤ x) && decide (x < ofk + an + b)))) (fun vb _ => 4 - (intOf vb).toNat)
                    case atStart => exact ⟨0, by omega, by go_num, HQB.out, hxb, V0.out, V2.out, by
                      have h9 := HOB2.out
                      rw [mark_congr (M' := fun x => covB (R0 ++ strW f0 ofk (wq.take j)) x || (decide (ofk + an ≤ x) && decide (x < ofk + an + 0))) (fun x _ => by
                        by_cases h1 : ofk + an ≤ x
                        · have a1 : decide (x < ofk + an + 0) = false := by simp; omega
                          rw [a1, Bool.and_false, Bool.or_false]
                        · have a1 : decide (ofk + an ≤ x) = false := by simp; omega
                          rw [a1, Bool.false_and, Bool.or_false])] at h9
                      exact h9⟩
                    case round =>
                      obtain ⟨b, hb, rfl, hqv, hgx, u0, u2, hownv⟩ := hrel
                      obtain ⟨wv, rfl⟩ : ∃ wv : World, wv = wr := ⟨_, rfl⟩
                      have HQV := hide hqv
                      have HOV := hide hownv
                      have U0 := hide u0
                      have U2 := hide u2
                      have HQW := hide (HQ4.out.trans hqv)
                      by_cases hb9 : b < 4
                      · have hb4 : decide ((b : Int) < 4) = true := by simp; omega
                        have hsx : w.heap.size < wv.heap.size := by have := hs1; have := (HQ14.out.trans hqv).size; omega
                        have hbax : ba < wv.heap.size := by have := HQW.out.size; omega
                        have y0 := ((HQ14.out.trans hqv).facts.1 _ 0 hs1).trans HK0.out
                        have y1 := ((HQ14.out.trans hqv).facts.1 _ 1 hs1).trans HK1.out
                        have y2 := ((HQ14.out.trans hqv).facts.1 _ 2 hs1).trans HK2.out
                        have p1 := (HQW.out.facts.1 _ _ hba0).trans O1.out
                        have p2 := (HQW.out.facts.1 _ _ hba0).trans O2.out
                        have p3 := (HQW.out.facts.1 _ _ hba0).trans O3.out
                        clear hqv hownv u0
                        go_upto_region 20 with fail
                        refine Ri.madeZ (C := fun W => Q wv W) [] [0, 1, 2, 3, 4, 5, 6, 7, 8, 9, 10, 11, 12, 13, 14, 15, 16] (fun w1 w3 X hq => X.trans hq) (Ri.phi [Ri.isV (.int .i64 ((b : Nat) : Int)), Ri.isV (.bool true), Ri.isV (.bool true), Ri.isV (.agg #[.slice A0 n0 c0, .slice A1 n1 c1, .slice A2 n2 c2]), Ri.isV (.pointer (some ⟨wx.heap.size, 2, none⟩)), Ri.isV (.string nm), Ri.isV (.bool true), Ri.isV (.bool true), Ri.isV (undef), Ri.isV (undef), Ri.isV (undef), Ri.isV (undef), Ri.isV (undef), Ri.isV (undef), Ri.isV (undef), Ri.isV (.bool true), Ri.isV (.bool true)]) (by kernel_rfl) (by kernel_rfl) (by kernel_rfl) ((Q.refl _).drew) (Ri.phi_mono ?_) (Ri.phi_fix ?_) ?_ ?_
                        · exact ⟨Ri.mono_isV _, Ri.mono_isV _, Ri.mono_isV _, Ri.mono_isV _, Ri.mono_isV _, Ri.mono_isV _, Ri.mono_isV _, Ri.mono_isV _, Ri.mono_isV _, Ri.mono_isV _, Ri.mono_isV _, Ri.mono_isV _, Ri.mono_isV _, Ri.mono_isV _, Ri.mono_isV _, Ri.mono_isV _, Ri.mono_isV _, trivial⟩
                        · exact ⟨fun _ => Ri.fix_isV _, fun _ => Ri.fix_isV _, fun _ => Ri.fix_isV _, fun _ => Ri.fix_isV _, fun _ => Ri.fix_isV _, fun _ => Ri.fix_isV _, fun _ => Ri.fix_isV _, fun _ => Ri.fix_isV _, fun _ => Ri.fix_isV _, fun _ => Ri.fix_isV _, fun _ => Ri.fix_isV _, fun _ => Ri.fix_isV _, fun _ => Ri.fix_isV _, fun _ => Ri.fix_isV _, fun _ => Ri.fix_isV _, fun _ => Ri.fix_isV _, fun _ => Ri.fix_isV _, trivial⟩
                        · refine Ri.All.cons ?_ (Ri.All.cons ?_ (Ri.All.cons ?_ (Ri.All.cons ?_ (Ri.All.cons ?_ (Ri.All.cons ?_ (Ri.All.cons ?_ (Ri.All.cons ?_ (Ri.All.cons ?_ (Ri.All.cons ?_ (Ri.All.cons ?_ (Ri.All.cons ?_ (Ri.All.cons ?_ (Ri.All.cons ?_ (Ri.All.cons ?_ (Ri.All.cons ?_ (Ri.All.cons ?_ (Ri.All.nil)))))))))))))))))
                          · refine Ri.StepZ.q (by kernel_rfl) rfl fun f W hq hf A hA hB hO => ?_
                            have e1 := (hB 15 (by kernel_rfl)).trans (show _ = .int .i64 ((b : Nat) : Int) by simp [Act.eval])
                            exact Ri.wp_value _ (Ri.run_mv rfl e1) rfl
                          · refine Ri.StepZ.q (by kernel_rfl) rfl fun f W hq hf A hA hB hO => ?_
                            have e1 := (hA 84 0 (by kernel_rfl) (by simp)).trans (show f 0 = _ from hf 0 (by kernel_rfl))
                            have e2 : A.eval (.const (.int .i64 4)) = .int .i64 4 := rfl
                            exact Ri.wp_value _ (hb4 ▸ Ri.run_lssJ rfl e1 e2 Try.underlying3) rfl
                          · refine Ri.StepZ.q (by kernel_rfl) rfl fun f W hq hf A hA hB hO => ?_
                            have e1 := (hA 85 1 (by kernel_rfl) (by simp)).trans (show f 1 = _ from hf 1 (by kernel_rfl))
                            exact Ri.wp_value _ (Ri.run_mv rfl e1) rfl
                          · refine Ri.StepZ.gq (by kernel_rfl) rfl rfl (by simp) fun f W hq hf A hA hB hO => ⟨hf 2 (by kernel_rfl), ?_⟩
                            have e1 := (hB 5 (by kernel_rfl)).trans (show _ = .pointer (some ⟨w.heap.size, 0, none⟩) by simp [Act.eval])
                            have h0 := (hq.facts.1 _ 0 hsx).trans y0
                            have h1 := (hq.facts.1 _ 1 hsx).trans y1
                            have h2 := (hq.facts.1 _ 2 hsx).trans y2
                            exact Ri.wp_value _ (Ri.run_ldagg (cs := [.slice A0 n0 c0, .slice A1 n1 c1, .slice A2 n2 c2]) rfl e1 (c3 h0 h1 h2) Try.underlying34 rfl (by kernel_rfl)) rfl
                          · refine Ri.StepZ.gq (by kernel_rfl) rfl rfl (by simp) fun f W hq hf A hA hB hO => ⟨hf 2 (by kernel_rfl), ?_⟩
                            have e1 := (hB 14 (by kernel_rfl)).trans (show _ = .pointer (some ⟨wx.heap.size, 0, none⟩) by simp [Act.eval])
                            exact Ri.wp_value _ (Ri.run_fld (f := _) rfl e1 Try.underlying97 rfl (sz := 0) (by kernel_rfl)) rfl
                          · refine Ri.StepZ.gq (by kernel_rfl) rfl rfl (by simp) fun f W hq hf A hA hB hO => ⟨hf 2 (by kernel_rfl), ?_⟩
                            have e1 := (hA 88 4 (by kernel_rfl) (by simp)).trans (show f 4 = _ from hf 4 (by kernel_rfl))
                            exact Ri.wp_value _ (Ri.run_ld1 rfl e1 Try.underlying9 rfl ((hq.facts.1 _ 2 hgx).trans u2)) rfl
                          · refine Ri.StepZ.gq (by kernel_rfl) rfl rfl (by simp) fun f W hq hf A hA hB hO => ⟨hf 2 (by kernel_rfl), ?_⟩
                            have e1 := (hA 87 3 (by kernel_rfl) (by simp)).trans (show f 3 = _ from hf 3 (by kernel_rfl))
                            have e2 := (hA 89 5 (by kernel_rfl) (by simp)).trans (show f 5 = _ from hf 5 (by kernel_rfl))
                            refine Ri.wp_call #[.agg #[.slice A0 n0 c0, .slice A1 n1 c1, .slice A2 n2 c2], .string nm] rfl (by simp [e1, e2]) Try.func66 (by kernel_rfl) (by kernel_rfl) ((HH1.out W (HQW.out.trans hq)).mono ?_)
                            rintro e w9 ⟨rfl, h1⟩
                            exact ⟨_, rfl, h1, rfl⟩
                          · refine Ri.StepZ.gq (by kernel_rfl) rfl rfl (by simp) fun f W hq hf A hA hB hO => ⟨hf 2 (by kernel_rfl), ?_⟩
                            have e1 := (hA 90 6 (by kernel_rfl) (by simp)).trans (show f 6 = _ from hf 6 (by kernel_rfl))
                            exact Ri.wp_value _ (Ri.run_mv rfl e1) rfl
                          · refine Ri.StepZ.off rfl rfl (by simp) fun f W hq hf => ⟨hf 7 (by kernel_rfl), rfl⟩
                          · refine Ri.StepZ.off rfl rfl (by simp) fun f W hq hf => ⟨hf 7 (by kernel_rfl), rfl⟩
                          · refine Ri.StepZ.off rfl rfl (by simp) fun f W hq hf => ⟨hf 7 (by kernel_rfl), rfl⟩
                          · refine Ri.StepZ.off rfl rfl (by simp) fun f W hq hf => ⟨hf 7 (by kernel_rfl), rfl⟩
                          · refine Ri.StepZ.off rfl rfl (by simp) fun f W hq hf => ⟨hf 7 (by kernel_rfl), rfl⟩
                          · refine Ri.StepZ.off rfl rfl (by simp) fun f W hq hf => ⟨hf 7 (by kernel_rfl), rfl⟩
                          · refine Ri.StepZ.off rfl rfl (by simp) fun f W hq hf => ⟨hf 7 (by kernel_rfl), rfl⟩
                          · refine Ri.StepZ.gq (by kernel_rfl) rfl rfl (by simp) fun f W hq hf A hA hB hO => ⟨hf 2 (by kernel_rfl), ?_⟩
                            have e1 := (hA 91 7 (by kernel_rfl) (by simp)).trans (show f 7 = _ from hf 7 (by kernel_rfl))
                            exact Ri.wp_value _ (Ri.run_pick rfl e1 (by simp [Act.eval])) rfl
                          · refine Ri.StepZ.q (by kernel_rfl) rfl fun f W hq hf A hA hB hO => ?_
                            have e1 := (hA 86 2 (by kernel_rfl) (by simp)).trans (show f 2 = _ from hf 2 (by kernel_rfl))
                            have e2 := (hA 99 15 (by kernel_rfl) (by simp)).trans (show f 15 = _ from hf 15 (by kernel_rfl))
                            exact Ri.wp_value _ (Ri.run_pick rfl e1 (by simpa using e2)) rfl
                        · intro f W hq hf
                          have e16 : f 16 = .bool true := hf 16 (by decide) (by kernel_rfl)
                          simp only [Ri.acts, Act.put, List.setIfInBounds_toArray, List.set_cons_zero, List.set_cons_succ, Nat.zero_add, Nat.reduceAdd]
                          rw [e16]
                          have HXW := hide hq
                          clear hf hq e16
                          obtain ⟨wu, rfl⟩ : ∃ wu : World, wu = W := ⟨_, rfl⟩
                          have HQU := hide (HQV.out.trans HXW.out)
                          have HOU := hide (own_q HOV.out HXW.out)
                          obtain ⟨Mb, hMb⟩ : ∃ Mb : Nat → Bool, (fun x => covB (R0 ++ strW f0 ofk (wq.take j)) x || (decide (ofk + an ≤ x) && decide (x < ofk + an + b))) = Mb := ⟨_, rfl⟩
                          rw [hMb] at HOU
                          have HMB := hide hMb
                          have hgmx : w4.heap.size < wu.heap.size := by have := HXW.out.size; omega
                          have hgx2 : wx.heap.size < wu.heap.size := by have := HXW.out.size; omega
                          have hgax : ga < wu.heap.size := by have := HQU.out.size; omega
                          have hlm : ofk + an + b < N + 1 := by have := HAN.out; omega
                          have sk := (HQU.out.facts.1 _ _ hga2).trans HSC3.out
                          have t0 := (HXW.out.facts.1 _ 0 hgx).trans U0.out
                          obtain ⟨gq, cq, eq, hgb, hgl, -, -, hcell, hfz⟩ := own_at HOU.out (by omega)
                          cases eq
                          have cm0 := hcell _ _ (mark_get (M := Mb) hlm)
                          have fm0 := hfz (ofk + an + b)
                          have HLM := hide hlm
                          clear y0 y1 y2 p1 p2 p3 u2 hMb hcell hfz
                          go_upto_region 22 with fail
                          refine Ri.made_last (Ri.phi [Ri.isV (.slice (some ⟨w4.heap.size, 0, none⟩) (N + 1) (N + 1)), Ri.isV (.slice (some ⟨ga, 0, none⟩) (n + 1) ca), Ri.isV (.int .i64 ((kk : Nat) : Int)), Ri.isV (.pointer (some ⟨ga, 0 + kk * 1, none⟩)), Ri.isV (.int .i64 ((ofk : Nat) : Int)), Ri.isV (.pointer (some ⟨wx.heap.size, 0, none⟩)), Ri.isV (.int .i64 ((an : Nat) : Int)), Ri.isV (.int .i64 ((ofk + an : Nat) : Int)), Ri.isV (.int .i64 ((b : Nat) : Int)), Ri.isV (.int .i64 ((ofk + an + b : Nat) : Int)), Ri.isV (.pointer (some ⟨w4.heap.size, 0 + (ofk + an + b) * 1, none⟩))]) (by kernel_rfl) (by kernel_rfl) rfl (by kernel_rfl) rfl (Ri.phi_mono ?_) ?_ ?_
                          · exact ⟨Ri.mono_isV _, Ri.mono_isV _, Ri.mono_isV _, Ri.mono_isV _, Ri.mono_isV _, Ri.mono_isV _, Ri.mono_isV _, Ri.mono_isV _, Ri.mono_isV _, Ri.mono_isV _, Ri.mono_isV _, trivial⟩
                          · refine Ri.All.cons ?_ (Ri.All.cons ?_ (Ri.All.cons ?_ (Ri.All.cons ?_ (Ri.All.cons ?_ (Ri.All.cons ?_ (Ri.All.cons ?_ (Ri.All.cons ?_ (Ri.All.cons ?_ (Ri.All.cons ?_ (Ri.All.cons ?_ (Ri.All.nil)))))))))))
                            · refine ⟨rfl, fun f W hq hf A hA hB hO => ?_⟩
                              have e1 := (hB 10 (by kernel_rfl)).trans (show _ = .slice (some ⟨w4.heap.size, 0, none⟩) (N + 1) (N + 1) by simp [Act.eval])
                              exact Ri.wp_value _ (Ri.run_mv rfl e1) rfl
                            · refine ⟨rfl, fun f W hq hf A hA hB hO => ?_⟩
                              have e1 := (hB 9 (by kernel_rfl)).trans (show _ = .slice (some ⟨ga, 0, none⟩) (n + 1) ca by simp [Act.eval])
                              exact Ri.wp_value _ (Ri.run_mv rfl e1) rfl
                            · refine ⟨rfl, fun f W hq hf A hA hB hO => ?_⟩
                              have e1 := (hB 12 (by kernel_rfl)).trans (show _ = .int .i64 ((kk : Nat) : Int) by simp [Act.eval])
                              exact Ri.wp_value _ (Ri.run_mv rfl e1) rfl
                            · refine ⟨rfl, fun f W hq hf A hA hB hO => ?_⟩
                              have e1 := (hA 104 1 (by kernel_rfl) (by simp)).trans (show f 1 = _ from hf 1 (by kernel_rfl))
                              have e2 := (hA 105 2 (by kernel_rfl) (by simp)).trans (show f 2 = _ from hf 2 (by kernel_rfl))
                              exact Ri.wp_value _ (Ri.run_idx rfl e1 e2 Try.underlying26 (sz := 1) (by kernel_rfl) (Nat.lt_succ_of_lt HKN.out)) rfl
                            · refine ⟨rfl, fun f W hq hf A hA hB hO => ?_⟩
                              have e1 := (hA 106 3 (by kernel_rfl) (by simp)).trans (show f 3 = _ from hf 3 (by kernel_rfl))
                              exact Ri.wp_value _ (Ri.run_ld1 rfl e1 Try.underlying3 rfl ((hq.facts.1 _ _ hgax).trans (by rw [Nat.mul_one, Nat.zero_add]; exact sk))) rfl
                            · refine ⟨rfl, fun f W hq hf A hA hB hO => ?_⟩
                              have e1 := (hB 14 (by kernel_rfl)).trans (show _ = .pointer (some ⟨wx.heap.size, 0, none⟩) by simp [Act.eval])
                              exact Ri.wp_value _ (Ri.run_fld (f := _) rfl e1 Try.underlying97 rfl (sz := 0) (by kernel_rfl)) rfl
                            · refine ⟨rfl, fun f W hq hf A hA hB hO => ?_⟩
                              have e1 := (hA 108 5 (by kernel_rfl) (by simp)).trans (show f 5 = _ from hf 5 (by kernel_rfl))
                              exact Ri.wp_value _ (Ri.run_ld1 rfl e1 Try.underlying3 rfl ((hq.facts.1 _ 0 hgx2).trans t0)) rfl
                            · refine ⟨rfl, fun f W hq hf A hA hB hO => ?_⟩
                              have e1 := (hA 107 4 (by kernel_rfl) (by simp)).trans (show f 4 = _ from hf 4 (by kernel_rfl))
                              have e2 := (hA 109 6 (by kernel_rfl) (by simp)).trans (show f 6 = _ from hf 6 (by kernel_rfl))
                              exact Ri.wp_value _ ((Ri.run_addJ rfl e1 e2 Try.underlying3 (by omega) (by omega)).trans (by simp)) rfl
                            · refine ⟨rfl, fun f W hq hf A hA hB hO => ?_⟩
                              have e1 := (hB 15 (by kernel_rfl)).trans (show _ = .int .i64 ((b : Nat) : Int) by simp [Act.eval])
                              exact Ri.wp_value _ (Ri.run_mv rfl e1) rfl
                            · refine ⟨rfl, fun f W hq hf A hA hB hO => ?_⟩
                              have e1 := (hA 110 7 (by kernel_rfl) (by simp)).trans (show f 7 = _ from hf 7 (by kernel_rfl))
                              have e2 := (hA 111 8 (by kernel_rfl) (by simp)).trans (show f 8 = _ from hf 8 (by kernel_rfl))
                              exact Ri.wp_value _ ((Ri.run_addJ rfl e1 e2 Try.underlying3 (by omega) (by omega)).trans (by simp)) rfl
                            · refine ⟨rfl, fun f W hq hf A hA hB hO => ?_⟩
                              have e1 := (hA 103 0 (by kernel_rfl) (by simp)).trans (show f 0 = _ from hf 0 (by kernel_rfl))
                              have e2 := (hA 112 9 (by kernel_rfl) (by simp)).trans (show f 9 = _ from hf 9 (by kernel_rfl))
                              exact Ri.wp_value _ (Ri.run_idx rfl e1 e2 Try.underlying111 (sz := 1) (by kernel_rfl) hlm) rfl
                          · intro f W2 hq hf A hAe hA hB
                            have e1 := (hA 113 10 (by kernel_rfl) (by simp)).trans (show f 10 = _ from hf 10 (by simp))
                            have c9 : W2.cell? ⟨w4.heap.size, 0 + (ofk + an + b) * 1, none⟩ = some (.bool (Mb (ofk + an + b))) := (hq.facts.1 _ _ hgmx).trans (by rw [Nat.mul_one, Nat.zero_add]; exact cm0)
                            have f9 : W2.frozen? ⟨w4.heap.size, 0 + (ofk + an + b) * 1, none⟩ = false := (hq.facts.2.1 _ _ hgmx).trans (by rw [Nat.mul_one, Nat.zero_add]; exact fm0)
                            refine Ri.wp_store rfl e1 rfl rfl (by kernel_rfl) rfl rfl c9 f9 ?_
                            rw [hAe]
                            simp only [Ri.acts, Act.put, List.setIfInBounds_toArray, List.set_cons_zero, List.set_cons_succ, Nat.zero_add, Nat.reduceAdd, Nat.mul_one]
                            have HQ2 := hide hq
                            clear hA hB hAe e1 hf hq c9 f9
                            clear sk t0 cm0 fm0
                            go_wp2_with fail
                            go_roundw
                            case rel => exact ⟨b + 1, by omega, by go_num, (HQU.out.trans HQ2.out).set (Nat.le_refl _) _, by have := HQ2.out.size; simp; omega, by
                              rw [World.cell?_setCell_other _ _ _ _ (by intro e; simp at e <;> omega)]
                              exact (HXW.out.trans HQ2.out).facts.1 _ 0 hgx |>.trans U0.out, by
                              rw [World.cell?_setCell_other _ _ _ _ (by intro e; simp at e <;> omega)]
                              exact (HXW.out.trans HQ2.out).facts.1 _ 2 hgx |>.trans U2.out, by
                              have h9 := own_set (own_q HOU.out HQ2.out) (ofk + an + b) (.bool true)
                              rw [mark_set, ← HMB.out] at h9
                              rw [mark_congr (M' := fun x => covB (R0 ++ strW f0 ofk (wq.take j)) x || (decide (ofk + an ≤ x) && decide (x < ofk + an + (b + 1)))) (fun x _ => by
                                by_cases h1 : x = ofk + an + b
                                · subst h1
                                  have a1 : decide (ofk + an ≤ ofk + an + b) = true := by simp
                                  have a2 : decide (ofk + an + b < ofk + an + (b + 1)) = true := by simp
                                  simp [a1, a2]
                                · have a1 : decide (x < ofk + an + (b + 1)) = decide (x < ofk + an + b) := by
                                    by_cases h2 : x < ofk + an + b
                                    · have a3 : decide (x < ofk + an + (b + 1)) = true := by simp; omega
                                      rw [a3]; simp [h2]
                                    · have a3 : decide (x < ofk + an + (b + 1)) = false := by simp; omega
                                      rw [a3]; simp [h2]
                                  have a4 : (x == ofk + an + b) = false := by simp [h1]
                                  simp only [a1, a4, Bool.or_false])] at h9
                              exact h9⟩
                            case measure => simp [intOf] <;> omega
                      · obtain rfl : b = 4 := by omega
                        have hb4 : decide ((4 : Int) < 4) = false := rfl
                        clear hqv hownv u0
                        go_upto_region 20 with fail
                        have hxc := ext_cell
                        refine wp_region_ext (by kernel_rfl) (by kernel_rfl) ?_
                        repeat (go_big_quiet_step ((fail)))
                        clear hxc
                        refine wpQuiet_nil ?_
                        intro wz hwwz
                        have hqwz := q_of_ext hwwz
                        clear hwwz
                        obtain ⟨hcwz, hfwz, hzwz⟩ := hqwz.facts
                        try simp at hzwz
                        try have hs0wz : w.heap.size < wz.heap.size := by omega
                        try have hs1wz : w.heap.size + 1 < wz.heap.size := by omega
                        clear hcwz hfwz
                        go_wp2_with fail
                        go_roundw
                        case rel => exact ⟨j + 1, by omega, by go_num, HQV.out.trans hqwz, by
                          have e := strW_step (f := f0) (st := ofk) G4.out
                          rw [if_pos HFT.out] at e
                          have h9 := own_q HOV.out hqwz
                          rw [e, ← List.append_assoc]
                          rw [mark_congr (M' := covB ((R0 ++ strW f0 ofk (wq.take j)) ++ [mkSt (ofk + an) (ofk + an + 4)])) (fun x _ => by
                            obtain ⟨v1, v2⟩ := mk_val (a := ofk + an) (b := ofk + an + 4) (by have := HAN.out; have := HNB.out; omega) (by have := HAN.out; have := HNB.out; omega)
                            rw [covB_snoc, v1, v2])] at h9
                          simpa using h9⟩
                        case measure => simp [intOf] <;> omega
                  | false =>
                    have HFT : Hid (f0 ((an : Int), kd, nm) = v2) := hide HFT0.out
                    cases v2 with
                    | true =>
                      go_loopw [15] (fun vb W => ∃ b : Nat, b ≤ 4 ∧ vb = .int .i64 b ∧ Q w4 W ∧ wx.heap.size < W.heap.size ∧ W.cell? ⟨wx.heap.size, 0, none⟩ = some (.int .i64 (an : Nat)) ∧ W.cell? ⟨wx.heap.size, 2, none⟩ = some (.string nm) ∧ W.ownsRow w4.heap.size 4 1 (.slice (some ⟨w4.heap.size, 0, none⟩) (N + 1) (N + 1)) (N + 1) (markL (N + 1) fun x => covB (R0 ++ strW f0 ofk (wq.take j)) x || (decide (ofk + an ≤ x) && decide (x < ofk + an + b)))) (fun vb _ => 4 - (intOf vb).toNat)
                      case atStart => exact ⟨0, by omega, by go_num, HQB.out, hxb, V0.out, V2.out, by
                        have h9 := HOB2.out
                        rw [mark_congr (M' := fun x => covB (R0 ++ strW f0 ofk (wq.take j)) x || (decide (ofk + an ≤ x) && decide (x < ofk + an + 0))) (fun x _ => by
                          by_cases h1 : ofk + an ≤ x
                          · have a1 : decide (x < ofk + an + 0) = false := by simp; omega
                            rw [a1, Bool.and_false, Bool.or_false]
                          · have a1 : decide (ofk + an ≤ x) = false := by simp; omega
                            rw [a1, Bool.false_and, Bool.or_false])] at h9
                        exact h9⟩
                      case round =>
                        obtain ⟨b, hb, rfl, hqv, hgx, u0, u2, hownv⟩ := hrel
                        obtain ⟨wv, rfl⟩ : ∃ wv : World, wv = wr := ⟨_, rfl⟩
                        have HQV := hide hqv
                        have HOV := hide hownv
                        have U0 := hide u0
                        have U2 := hide u2
                        have HQW := hide (HQ4.out.trans hqv)
                        by_cases hb9 : b < 4
                        · have hb4 : decide ((b : Int) < 4) = true := by simp; omega
                          have hsx : w.heap.size < wv.heap.size := by have := hs1; have := (HQ14.out.trans hqv).size; omega
                          have hbax : ba < wv.heap.size := by have := HQW.out.size; omega
                          have y0 := ((HQ14.out.trans hqv).facts.1 _ 0 hs1).trans HK0.out
                          have y1 := ((HQ14.out.trans hqv).facts.1 _ 1 hs1).trans HK1.out
                          have y2 := ((HQ14.out.trans hqv).facts.1 _ 2 hs1).trans HK2.out
                          have p1 := (HQW.out.facts.1 _ _ hba0).trans O1.out
                          have p2 := (HQW.out.facts.1 _ _ hba0).trans O2.out
                          have p3 := (HQW.out.facts.1 _ _ hba0).trans O3.out
                          clear hqv hownv u0
                          go_upto_region 20 with fail
                          refine Ri.madeZ (C := fun W => Q wv W) [] [0, 1, 2, 3, 4, 5, 6, 7, 8, 9, 10, 11, 12, 13, 14, 15, 16] (fun w1 w3 X hq => X.trans hq) (Ri.phi [Ri.isV (.int .i64 ((b : Nat) : Int)), Ri.isV (.bool true), Ri.isV (.bool true), Ri.isV (.agg #[.slice A0 n0 c0, .slice A1 n1 c1, .slice A2 n2 c2]), Ri.isV (.pointer (some ⟨wx.heap.size, 2, none⟩)), Ri.isV (.string nm), Ri.isV (.bool false), Ri.isV (.bool false), Ri.isV (.slice (some ⟨ba, oa, none⟩) n c), Ri.isV (.int .i64 ((k : Nat) : Int)), Ri.isV (.pointer (some ⟨ba, oa + k * 3, none⟩)), Ri.isV (.agg #[.slice B0 m0 d0, .slice B1 m1 d1, .slice B2 m2 d2]), Ri.isV (.pointer (some ⟨wx.heap.size, 2, none⟩)), Ri.isV (.string nm), Ri.isV (.bool true), Ri.isV (.bool true), Ri.isV (.bool true)]) (by kernel_rfl) (by kernel_rfl) (by kernel_rfl) ((Q.refl _).drew) (Ri.phi_mono ?_) (Ri.phi_fix ?_) ?_ ?_
                          · exact ⟨Ri.mono_isV _, Ri.mono_isV _, Ri.mono_isV _, Ri.mono_isV _, Ri.mono_isV _, Ri.mono_isV _, Ri.mono_isV _, Ri.mono_isV _, Ri.mono_isV _, Ri.mono_isV _, Ri.mono_isV _, Ri.mono_isV _, Ri.mono_isV _, Ri.mono_isV _, Ri.mono_isV _, Ri.mono_isV _, Ri.mono_isV _, trivial⟩
                          · exact ⟨fun _ => Ri.fix_isV _, fun _ => Ri.fix_isV _, fun _ => Ri.fix_isV _, fun _ => Ri.fix_isV _, fun _ => Ri.fix_isV _, fun _ => Ri.fix_isV _, fun _ => Ri.fix_isV _, fun _ => Ri.fix_isV _, fun _ => Ri.fix_isV _, fun _ => Ri.fix_isV _, fun _ => Ri.fix_isV _, fun _ => Ri.fix_isV _, fun _ => Ri.fix_isV _, fun _ => Ri.fix_isV _, fun _ => Ri.fix_isV _, fun _ => Ri.fix_isV _, fun _ => Ri.fix_isV _, trivial⟩
                          · refine Ri.All.cons ?_ (Ri.All.cons ?_ (Ri.All.cons ?_ (Ri.All.cons ?_ (Ri.All.cons ?_ (Ri.All.cons ?_ (Ri.All.cons ?_ (Ri.All.cons ?_ (Ri.All.cons ?_ (Ri.All.cons ?_ (Ri.All.cons ?_ (Ri.All.cons ?_ (Ri.All.cons ?_ (Ri.All.cons ?_ (Ri.All.cons ?_ (Ri.All.cons ?_ (Ri.All.cons ?_ (Ri.All.nil)))))))))))))))))
                            · refine Ri.StepZ.q (by kernel_rfl) rfl fun f W hq hf A hA hB hO => ?_
                              have e1 := (hB 15 (by kernel_rfl)).trans (show _ = .int .i64 ((b : Nat) : Int) by simp [Act.eval])
                              exact Ri.wp_value _ (Ri.run_mv rfl e1) rfl
                            · refine Ri.StepZ.q (by kernel_rfl) rfl fun f W hq hf A hA hB hO => ?_
                              have e1 := (hA 84 0 (by kernel_rfl) (by simp)).trans (show f 0 = _ from hf 0 (by kernel_rfl))
                              have e2 : A.eval (.const (.int .i64 4)) = .int .i64 4 := rfl
                              exact Ri.wp_value _ (hb4 ▸ Ri.run_lssJ rfl e1 e2 Try.underlying3) rfl
                            · refine Ri.StepZ.q (by kernel_rfl) rfl fun f W hq hf A hA hB hO => ?_
                              have e1 := (hA 85 1 (by kernel_rfl) (by simp)).trans (show f 1 = _ from hf 1 (by kernel_rfl))
                              exact Ri.wp_value _ (Ri.run_mv rfl e1) rfl
                            · refine Ri.StepZ.gq (by kernel_rfl) rfl rfl (by simp) fun f W hq hf A hA hB hO => ⟨hf 2 (by kernel_rfl), ?_⟩
                              have e1 := (hB 5 (by kernel_rfl)).trans (show _ = .pointer (some ⟨w.heap.size, 0, none⟩) by simp [Act.eval])
                              have h0 := (hq.facts.1 _ 0 hsx).trans y0
                              have h1 := (hq.facts.1 _ 1 hsx).trans y1
                              have h2 := (hq.facts.1 _ 2 hsx).trans y2
                              exact Ri.wp_value _ (Ri.run_ldagg (cs := [.slice A0 n0 c0, .slice A1 n1 c1, .slice A2 n2 c2]) rfl e1 (c3 h0 h1 h2) Try.underlying34 rfl (by kernel_rfl)) rfl
                            · refine Ri.StepZ.gq (by kernel_rfl) rfl rfl (by simp) fun f W hq hf A hA hB hO => ⟨hf 2 (by kernel_rfl), ?_⟩
                              have e1 := (hB 14 (by kernel_rfl)).trans (show _ = .pointer (some ⟨wx.heap.size, 0, none⟩) by simp [Act.eval])
                              exact Ri.wp_value _ (Ri.run_fld (f := _) rfl e1 Try.underlying97 rfl (sz := 0) (by kernel_rfl)) rfl
                            · refine Ri.StepZ.gq (by kernel_rfl) rfl rfl (by simp) fun f W hq hf A hA hB hO => ⟨hf 2 (by kernel_rfl), ?_⟩
                              have e1 := (hA 88 4 (by kernel_rfl) (by simp)).trans (show f 4 = _ from hf 4 (by kernel_rfl))
                              exact Ri.wp_value _ (Ri.run_ld1 rfl e1 Try.underlying9 rfl ((hq.facts.1 _ 2 hgx).trans u2)) rfl
                            · refine Ri.StepZ.gq (by kernel_rfl) rfl rfl (by simp) fun f W hq hf A hA hB hO => ⟨hf 2 (by kernel_rfl), ?_⟩
                              have e1 := (hA 87 3 (by kernel_rfl) (by simp)).trans (show f 3 = _ from hf 3 (by kernel_rfl))
                              have e2 := (hA 89 5 (by kernel_rfl) (by simp)).trans (show f 5 = _ from hf 5 (by kernel_rfl))
                              refine Ri.wp_call #[.agg #[.slice A0 n0 c0, .slice A1 n1 c1, .slice A2 n2 c2], .string nm] rfl (by simp [e1, e2]) Try.func66 (by kernel_rfl) (by kernel_rfl) ((HH1.out W (HQW.out.trans hq)).mono ?_)
                              rintro e w9 ⟨rfl, h1⟩
                              exact ⟨_, rfl, h1, rfl⟩
                            · refine Ri.StepZ.gq (by kernel_rfl) rfl rfl (by simp) fun f W hq hf A hA hB hO => ⟨hf 2 (by kernel_rfl), ?_⟩
                              have e1 := (hA 90 6 (by kernel_rfl) (by simp)).trans (show f 6 = _ from hf 6 (by kernel_rfl))
                              exact Ri.wp_value _ (Ri.run_mv rfl e1) rfl
                            · refine Ri.StepZ.gq (by kernel_rfl) rfl rfl (by simp) fun f W hq hf A hA hB hO => ⟨hf 7 (by kernel_rfl), ?_⟩
                              have e1 := (hB 0 (by kernel_rfl)).trans (show _ = .slice (some ⟨ba, oa, none⟩) n c by simp [Act.eval])
                              exact Ri.wp_value _ (Ri.run_mv rfl e1) rfl
                            · refine Ri.StepZ.gq (by kernel_rfl) rfl rfl (by simp) fun f W hq hf A hA hB hO => ⟨hf 7 (by kernel_rfl), ?_⟩
                              have e1 := (hB 1 (by kernel_rfl)).trans (show _ = .int .i64 ((k : Nat) : Int) by simp [Act.eval])
                              exact Ri.wp_value _ (Ri.run_mv rfl e1) rfl
                            · refine Ri.StepZ.gq (by kernel_rfl) rfl rfl (by simp) fun f W hq hf A hA hB hO => ⟨hf 7 (by kernel_rfl), ?_⟩
                              have e1 := (hA 92 8 (by kernel_rfl) (by simp)).trans (show f 8 = _ from hf 8 (by kernel_rfl))
                              have e2 := (hA 93 9 (by kernel_rfl) (by simp)).trans (show f 9 = _ from hf 9 (by kernel_rfl))
                              exact Ri.wp_value _ (Ri.run_idx rfl e1 e2 Try.underlying22 (sz := 3) (by kernel_rfl) HKK.out) rfl
                            · refine Ri.StepZ.gq (by kernel_rfl) rfl rfl (by simp) fun f W hq hf A hA hB hO => ⟨hf 7 (by kernel_rfl), ?_⟩
                              have e1 := (hA 94 10 (by kernel_rfl) (by simp)).trans (show f 10 = _ from hf 10 (by kernel_rfl))
                              have h0 := (hq.facts.1 _ _ hbax).trans p1
                              have h1 := (hq.facts.1 _ _ hbax).trans p2
                              have h2 := (hq.facts.1 _ _ hbax).trans p3
                              exact Ri.wp_value _ (Ri.run_ldagg (cs := [.slice B0 m0 d0, .slice B1 m1 d1, .slice B2 m2 d2]) rfl e1 (c3 h0 h1 h2) Try.underlying34 rfl (by kernel_rfl)) rfl
                            · refine Ri.StepZ.gq (by kernel_rfl) rfl rfl (by simp) fun f W hq hf A hA hB hO => ⟨hf 7 (by kernel_rfl), ?_⟩
                              have e1 := (hB 14 (by kernel_rfl)).trans (show _ = .pointer (some ⟨wx.heap.size, 0, none⟩) by simp [Act.eval])
                              exact Ri.wp_value _ (Ri.run_fld (f := _) rfl e1 Try.underlying97 rfl (sz := 0) (by kernel_rfl)) rfl
                            · refine Ri.StepZ.gq (by kernel_rfl) rfl rfl (by simp) fun f W hq hf A hA hB hO => ⟨hf 7 (by kernel_rfl), ?_⟩
                              have e1 := (hA 96 12 (by kernel_rfl) (by simp)).trans (show f 12 = _ from hf 12 (by kernel_rfl))
                              exact Ri.wp_value _ (Ri.run_ld1 rfl e1 Try.underlying9 rfl ((hq.facts.1 _ 2 hgx).trans u2)) rfl
                            · refine Ri.StepZ.gq (by kernel_rfl) rfl rfl (by simp) fun f W hq hf A hA hB hO => ⟨hf 7 (by kernel_rfl), ?_⟩
                              have e1 := (hA 95 11 (by kernel_rfl) (by simp)).trans (show f 11 = _ from hf 11 (by kernel_rfl))
                              have e2 := (hA 97 13 (by kernel_rfl) (by simp)).trans (show f 13 = _ from hf 13 (by kernel_rfl))
                              refine Ri.wp_call #[.agg #[.slice B0 m0 d0, .slice B1 m1 d1, .slice B2 m2 d2], .string nm] rfl (by simp [e1, e2]) Try.func66 (by kernel_rfl) (by kernel_rfl) ((HH2.out W (HQW.out.trans hq)).mono ?_)
                              rintro e w9 ⟨rfl, h1⟩
                              exact ⟨_, rfl, h1, rfl⟩
                            · refine Ri.StepZ.gq (by kernel_rfl) rfl rfl (by simp) fun f W hq hf A hA hB hO => ⟨hf 2 (by kernel_rfl), ?_⟩
                              have e1 := (hA 91 7 (by kernel_rfl) (by simp)).trans (show f 7 = _ from hf 7 (by kernel_rfl))
                              have e2 := (hA 98 14 (by kernel_rfl) (by simp)).trans (show f 14 = _ from hf 14 (by kernel_rfl))
                              exact Ri.wp_value _ (Ri.run_pick rfl e1 (by simpa using e2)) rfl
                            · refine Ri.StepZ.q (by kernel_rfl) rfl fun f W hq hf A hA hB hO => ?_
                              have e1 := (hA 86 2 (by kernel_rfl) (by simp)).trans (show f 2 = _ from hf 2 (by kernel_rfl))
                              have e2 := (hA 99 15 (by kernel_rfl) (by simp)).trans (show f 15 = _ from hf 15 (by kernel_rfl))
                              exact Ri.wp_value _ (Ri.run_pick rfl e1 (by simpa using e2)) rfl
                          · intro f W hq hf
                            have e16 : f 16 = .bool true := hf 16 (by decide) (by kernel_rfl)
                            simp only [Ri.acts, Act.put, List.setIfInBounds_toArray, List.set_cons_zero, List.set_cons_succ, Nat.zero_add, Nat.reduceAdd]
                            rw [e16]
                            have HXW := hide hq
                            clear hf hq e16
                            obtain ⟨wu, rfl⟩ : ∃ wu : World, wu = W := ⟨_, rfl⟩
                            have HQU := hide (HQV.out.trans HXW.out)
                            have HOU := hide (own_q HOV.out HXW.out)
                            obtain ⟨Mb, hMb⟩ : ∃ Mb : Nat → Bool, (fun x => covB (R0 ++ strW f0 ofk (wq.take j)) x || (decide (ofk + an ≤ x) && decide (x < ofk + an + b))) = Mb := ⟨_, rfl⟩
                            rw [hMb] at HOU
                            have HMB := hide hMb
                            have hgmx : w4.heap.size < wu.heap.size := by have := HXW.out.size; omega
                            have hgx2 : wx.heap.size < wu.heap.size := by have := HXW.out.size; omega
                            have hgax : ga < wu.heap.size := by have := HQU.out.size; omega
                            have hlm : ofk + an + b < N + 1 := by have := HAN.out; omega
                            have sk := (HQU.out.facts.1 _ _ hga2).trans HSC3.out
                            have t0 := (HXW.out.facts.1 _ 0 hgx).trans U0.out
                            obtain ⟨gq, cq, eq, hgb, hgl, -, -, hcell, hfz⟩ := own_at HOU.out (by omega)
                            cases eq
                            have cm0 := hcell _ _ (mark_get (M := Mb) hlm)
                            have fm0 := hfz (ofk + an + b)
                            have HLM := hide hlm
                            clear y0 y1 y2 p1 p2 p3 u2 hMb hcell hfz
                            go_upto_region 22 with fail
                            refine Ri.made_last (Ri.phi [Ri.isV (.slice (some ⟨w4.heap.size, 0, none⟩) (N + 1) (N + 1)), Ri.isV (.slice (some ⟨ga, 0, none⟩) (n + 1) ca), Ri.isV (.int .i64 ((kk : Nat) : Int)), Ri.isV (.pointer (some ⟨ga, 0 + kk * 1, none⟩)), Ri.isV (.int .i64 ((ofk : Nat) : Int)), Ri.isV (.pointer (some ⟨wx.heap.size, 0, none⟩)), Ri.isV (.int .i64 ((an : Nat) : Int)), Ri.isV (.int .i64 ((ofk + an : Nat) : Int)), Ri.isV (.int .i64 ((b : Nat) : Int)), Ri.isV (.int .i64 ((ofk + an + b : Nat) : Int)), Ri.isV (.pointer (some ⟨w4.heap.size, 0 + (ofk + an + b) * 1, none⟩))]) (by kernel_rfl) (by kernel_rfl) rfl (by kernel_rfl) rfl (Ri.phi_mono ?_) ?_ ?_
                            · exact ⟨Ri.mono_isV _, Ri.mono_isV _, Ri.mono_isV _, Ri.mono_isV _, Ri.mono_isV _, Ri.mono_isV _, Ri.mono_isV _, Ri.mono_isV _, Ri.mono_isV _, Ri.mono_isV _, Ri.mono_isV _, trivial⟩
                            · refine Ri.All.cons ?_ (Ri.All.cons ?_ (Ri.All.cons ?_ (Ri.All.cons ?_ (Ri.All.cons ?_ (Ri.All.cons ?_ (Ri.All.cons ?_ (Ri.All.cons ?_ (Ri.All.cons ?_ (Ri.All.cons ?_ (Ri.All.cons ?_ (Ri.All.nil)))))))))))
                              · refine ⟨rfl, fun f W hq hf A hA hB hO => ?_⟩
                                have e1 := (hB 10 (by kernel_rfl)).trans (show _ = .slice (some ⟨w4.heap.size, 0, none⟩) (N + 1) (N + 1) by simp [Act.eval])
                                exact Ri.wp_value _ (Ri.run_mv rfl e1) rfl
                              · refine ⟨rfl, fun f W hq hf A hA hB hO => ?_⟩
                                have e1 := (hB 9 (by kernel_rfl)).trans (show _ = .slice (some ⟨ga, 0, none⟩) (n + 1) ca by simp [Act.eval])
                                exact Ri.wp_value _ (Ri.run_mv rfl e1) rfl
                              · refine ⟨rfl, fun f W hq hf A hA hB hO => ?_⟩
                                have e1 := (hB 12 (by kernel_rfl)).trans (show _ = .int .i64 ((kk : Nat) : Int) by simp [Act.eval])
                                exact Ri.wp_value _ (Ri.run_mv rfl e1) rfl
                              · refine ⟨rfl, fun f W hq hf A hA hB hO => ?_⟩
                                have e1 := (hA 104 1 (by kernel_rfl) (by simp)).trans (show f 1 = _ from hf 1 (by kernel_rfl))
                                have e2 := (hA 105 2 (by kernel_rfl) (by simp)).trans (show f 2 = _ from hf 2 (by kernel_rfl))
                                exact Ri.wp_value _ (Ri.run_idx rfl e1 e2 Try.underlying26 (sz := 1) (by kernel_rfl) (Nat.lt_succ_of_lt HKN.out)) rfl
                              · refine ⟨rfl, fun f W hq hf A hA hB hO => ?_⟩
                                have e1 := (hA 106 3 (by kernel_rfl) (by simp)).trans (show f 3 = _ from hf 3 (by kernel_rfl))
                                exact Ri.wp_value _ (Ri.run_ld1 rfl e1 Try.underlying3 rfl ((hq.facts.1 _ _ hgax).trans (by rw [Nat.mul_one, Nat.zero_add]; exact sk))) rfl
                              · refine ⟨rfl, fun f W hq hf A hA hB hO => ?_⟩
                                have e1 := (hB 14 (by kernel_rfl)).trans (show _ = .pointer (some ⟨wx.heap.size, 0, none⟩) by simp [Act.eval])
                                exact Ri.wp_value _ (Ri.run_fld (f := _) rfl e1 Try.underlying97 rfl (sz := 0) (by kernel_rfl)) rfl
                              · refine ⟨rfl, fun f W hq hf A hA hB hO => ?_⟩
                                have e1 := (hA 108 5 (by kernel_rfl) (by simp)).trans (show f 5 = _ from hf 5 (by kernel_rfl))
                                exact Ri.wp_value _ (Ri.run_ld1 rfl e1 Try.underlying3 rfl ((hq.facts.1 _ 0 hgx2).trans t0)) rfl
                              · refine ⟨rfl, fun f W hq hf A hA hB hO => ?_⟩
                                have e1 := (hA 107 4 (by kernel_rfl) (by simp)).trans (show f 4 = _ from hf 4 (by kernel_rfl))
                                have e2 := (hA 109 6 (by kernel_rfl) (by simp)).trans (show f 6 = _ from hf 6 (by kernel_rfl))
                                exact Ri.wp_value _ ((Ri.run_addJ rfl e1 e2 Try.underlying3 (by omega) (by omega)).trans (by simp)) rfl
                              · refine ⟨rfl, fun f W hq hf A hA hB hO => ?_⟩
                                have e1 := (hB 15 (by kernel_rfl)).trans (show _ = .int .i64 ((b : Nat) : Int) by simp [Act.eval])
                                exact Ri.wp_value _ (Ri.run_mv rfl e1) rfl
                              · refine ⟨rfl, fun f W hq hf A hA hB hO => ?_⟩
                                have e1 := (hA 110 7 (by kernel_rfl) (by simp)).trans (show f 7 = _ from hf 7 (by kernel_rfl))
                                have e2 := (hA 111 8 (by kernel_rfl) (by simp)).trans (show f 8 = _ from hf 8 (by kernel_rfl))
                                exact Ri.wp_value _ ((Ri.run_addJ rfl e1 e2 Try.underlying3 (by omega) (by omega)).trans (by simp)) rfl
                              · refine ⟨rfl, fun f W hq hf A hA hB hO => ?_⟩
                                have e1 := (hA 103 0 (by kernel_rfl) (by simp)).trans (show f 0 = _ from hf 0 (by kernel_rfl))
                                have e2 := (hA 112 9 (by kernel_rfl) (by simp)).trans (show f 9 = _ from hf 9 (by kernel_rfl))
                                exact Ri.wp_value _ (Ri.run_idx rfl e1 e2 Try.underlying111 (sz := 1) (by kernel_rfl) hlm) rfl
                            · intro f W2 hq hf A hAe hA hB
                              have e1 := (hA 113 10 (by kernel_rfl) (by simp)).trans (show f 10 = _ from hf 10 (by simp))
                              have c9 : W2.cell? ⟨w4.heap.size, 0 + (ofk + an + b) * 1, none⟩ = some (.bool (Mb (ofk + an + b))) := (hq.facts.1 _ _ hgmx).trans (by rw [Nat.mul_one, Nat.zero_add]; exact cm0)
                              have f9 : W2.frozen? ⟨w4.heap.size, 0 + (ofk + an + b) * 1, none⟩ = false := (hq.facts.2.1 _ _ hgmx).trans (by rw [Nat.mul_one, Nat.zero_add]; exact fm0)
                              refine Ri.wp_store rfl e1 rfl rfl (by kernel_rfl) rfl rfl c9 f9 ?_
                              rw [hAe]
                              simp only [Ri.acts, Act.put, List.setIfInBounds_toArray, List.set_cons_zero, List.set_cons_succ, Nat.zero_add, Nat.reduceAdd, Nat.mul_one]
                              have HQ2 := hide hq
                              clear hA hB hAe e1 hf hq c9 f9
                              clear sk t0 cm0 fm0
                              go_wp2_with fail
                              go_roundw
                              case rel => exact ⟨b + 1, by omega, by go_num, (HQU.out.trans HQ2.out).set (Nat.le_refl _) _, by have := HQ2.out.size; simp; omega, by
                                rw [World.cell?_setCell_other _ _ _ _ (by intro e; simp at e <;> omega)]
                                exact (HXW.out.trans HQ2.out).facts.1 _ 0 hgx |>.trans U0.out, by
                                rw [World.cell?_setCell_other _ _ _ _ (by intro e; simp at e <;> omega)]
                                exact (HXW.out.trans HQ2.out).facts.1 _ 2 hgx |>.trans U2.out, by
                                have h9 := own_set (own_q HOU.out HQ2.out) (ofk + an + b) (.bool true)
                                rw [mark_set, ← HMB.out] at h9
                                rw [mark_congr (M' := fun x => covB (R0 ++ strW f0 ofk (wq.take j)) x || (decide (ofk + an ≤ x) && decide (x < ofk + an + (b + 1)))) (fun x _ => by
                                  by_cases h1 : x = ofk + an + b
                                  · subst h1
                                    have a1 : decide (ofk + an ≤ ofk + an + b) = true := by simp
                                    have a2 : decide (ofk + an + b < ofk + an + (b + 1)) = true := by simp
                                    simp [a1, a2]
                                  · have a1 : decide (x < ofk + an + (b + 1)) = decide (x < ofk + an + b) := by
                                      by_cases h2 : x < ofk + an + b
                                      · have a3 : decide (x < ofk + an + (b + 1)) = true := by simp; omega
                                        rw [a3]; simp [h2]
                                      · have a3 : decide (x < ofk + an + (b + 1)) = false := by simp; omega
                                        rw [a3]; simp [h2]
                                    have a4 : (x == ofk + an + b) = false := by simp [h1]
                                    simp only [a1, a4, Bool.or_false])] at h9
                                exact h9⟩
                              case measure => simp [intOf] <;> omega
                        · obtain rfl : b = 4 := by omega
                          have hb4 : decide ((4 : Int) < 4) = false := rfl
                          clear hqv hownv u0
                          go_upto_region 20 with fail
                          have hxc := ext_cell
                          refine wp_region_ext (by kernel_rfl) (by kernel_rfl) ?_
                          repeat (go_big_quiet_step ((fail)))
                          clear hxc
                          refine wpQuiet_nil ?_
                          intro wz hwwz
                          have hqwz := q_of_ext hwwz
                          clear hwwz
                          obtain ⟨hcwz, hfwz, hzwz⟩ := hqwz.facts
                          try simp at hzwz
                          try have hs0wz : w.heap.size < wz.heap.size := by omega
                          try have hs1wz : w.heap.size + 1 < wz.heap.size := by omega
                          clear hcwz hfwz
                          go_wp2_with fail
                          go_roundw
                          case rel => exact ⟨j + 1, by omega, by go_num, HQV.out.trans hqwz, by
                            have e := strW_step (f := f0) (st := ofk) G4.out
                            rw [if_pos HFT.out] at e
                            have h9 := own_q HOV.out hqwz
                            rw [e, ← List.append_assoc]
                            rw [mark_congr (M' := covB ((R0 ++ strW f0 ofk (wq.take j)) ++ [mkSt (ofk + an) (ofk + an + 4)])) (fun x _ => by
                              obtain ⟨v1, v2⟩ := mk_val (a := ofk + an) (b := ofk + an + 4) (by have := HAN.out; have := HNB.out; omega) (by have := HAN.out; have := HNB.out; omega)
                              rw [covB_snoc, v1, v2])] at h9
                            simpa using h9⟩
                          case measure => simp [intOf] <;> omega
                    | false =>
                      go_loopw [15] (fun vb W => ∃ b : Nat, b = 0 ∧ vb = .int .i64 b ∧ Q wb W) (fun vb _ => 0)
                      case atStart => exact ⟨0, rfl, by go_num, Q.refl _⟩
                      case round =>
                        obtain ⟨b, hb0, rfl, hqv⟩ := hrel
                        obtain ⟨wv, rfl⟩ : ∃ wv : World, wv = wr := ⟨_, rfl⟩
                        have hb4 : decide (((b : Nat) : Int) < 4) = true := by rw [hb0]; rfl
                        have HQV := hide (HQB.out.trans hqv)
                        have HQBV := hide hqv
                        have HQW := hide (HQ4.out.trans HQV.out)
                        have hgx : wx.heap.size < wv.heap.size := by have := hqv.size; omega
                        have u2 := (hqv.facts.1 _ 2 hxb).trans V2.out
                        have hsx : w.heap.size < wv.heap.size := by have := hs1; have := (HQ14.out.trans HQV.out).size; omega
                        have hbax : ba < wv.heap.size := by have := HQW.out.size; omega
                        have y0 := ((HQ14.out.trans HQV.out).facts.1 _ 0 hs1).trans HK0.out
                        have y1 := ((HQ14.out.trans HQV.out).facts.1 _ 1 hs1).trans HK1.out
                        have y2 := ((HQ14.out.trans HQV.out).facts.1 _ 2 hs1).trans HK2.out
                        have p1 := (HQW.out.facts.1 _ _ hba0).trans O1.out
                        have p2 := (HQW.out.facts.1 _ _ hba0).trans O2.out
                        have p3 := (HQW.out.facts.1 _ _ hba0).trans O3.out
                        clear hqv hb0
                        go_upto_region 20 with fail
                        refine Ri.madeZ (C := fun W => Q wv W) [] [0, 1, 2, 3, 4, 5, 6, 7, 8, 9, 10, 11, 12, 13, 14, 15, 16] (fun w1 w3 X hq => X.trans hq) (Ri.phi [Ri.isV (.int .i64 ((b : Nat) : Int)), Ri.isV (.bool true), Ri.isV (.bool true), Ri.isV (.agg #[.slice A0 n0 c0, .slice A1 n1 c1, .slice A2 n2 c2]), Ri.isV (.pointer (some ⟨wx.heap.size, 2, none⟩)), Ri.isV (.string nm), Ri.isV (.bool false), Ri.isV (.bool false), Ri.isV (.slice (some ⟨ba, oa, none⟩) n c), Ri.isV (.int .i64 ((k : Nat) : Int)), Ri.isV (.pointer (some ⟨ba, oa + k * 3, none⟩)), Ri.isV (.agg #[.slice B0 m0 d0, .slice B1 m1 d1, .slice B2 m2 d2]), Ri.isV (.pointer (some ⟨wx.heap.size, 2, none⟩)), Ri.isV (.string nm), Ri.isV (.bool false), Ri.isV (.bool false), Ri.isV (.bool false)]) (by kernel_rfl) (by kernel_rfl) (by kernel_rfl) ((Q.refl _).drew) (Ri.phi_mono ?_) (Ri.phi_fix ?_) ?_ ?_
                        · exact ⟨Ri.mono_isV _, Ri.mono_isV _, Ri.mono_isV _, Ri.mono_isV _, Ri.mono_isV _, Ri.mono_isV _, Ri.mono_isV _, Ri.mono_isV _, Ri.mono_isV _, Ri.mono_isV _, Ri.mono_isV _, Ri.mono_isV _, Ri.mono_isV _, Ri.mono_isV _, Ri.mono_isV _, Ri.mono_isV _, Ri.mono_isV _, trivial⟩
                        · exact ⟨fun _ => Ri.fix_isV _, fun _ => Ri.fix_isV _, fun _ => Ri.fix_isV _, fun _ => Ri.fix_isV _, fun _ => Ri.fix_isV _, fun _ => Ri.fix_isV _, fun _ => Ri.fix_isV _, fun _ => Ri.fix_isV _, fun _ => Ri.fix_isV _, fun _ => Ri.fix_isV _, fun _ => Ri.fix_isV _, fun _ => Ri.fix_isV _, fun _ => Ri.fix_isV _, fun _ => Ri.fix_isV _, fun _ => Ri.fix_isV _, fun _ => Ri.fix_isV _, fun _ => Ri.fix_isV _, trivial⟩
                        · refine Ri.All.cons ?_ (Ri.All.cons ?_ (Ri.All.cons ?_ (Ri.All.cons ?_ (Ri.All.cons ?_ (Ri.All.cons ?_ (Ri.All.cons ?_ (Ri.All.cons ?_ (Ri.All.cons ?_ (Ri.All.cons ?_ (Ri.All.cons ?_ (Ri.All.cons ?_ (Ri.All.cons ?_ (Ri.All.cons ?_ (Ri.All.cons ?_ (Ri.All.cons ?_ (Ri.All.cons ?_ (Ri.All.nil)))))))))))))))))
                          · refine Ri.StepZ.q (by kernel_rfl) rfl fun f W hq hf A hA hB hO => ?_
                            have e1 := (hB 15 (by kernel_rfl)).trans (show _ = .int .i64 ((b : Nat) : Int) by simp [Act.eval])
                            exact Ri.wp_value _ (Ri.run_mv rfl e1) rfl
                          · refine Ri.StepZ.q (by kernel_rfl) rfl fun f W hq hf A hA hB hO => ?_
                            have e1 := (hA 84 0 (by kernel_rfl) (by simp)).trans (show f 0 = _ from hf 0 (by kernel_rfl))
                            have e2 : A.eval (.const (.int .i64 4)) = .int .i64 4 := rfl
                            exact Ri.wp_value _ (hb4 ▸ Ri.run_lssJ rfl e1 e2 Try.underlying3) rfl
                          · refine Ri.StepZ.q (by kernel_rfl) rfl fun f W hq hf A hA hB hO => ?_
                            have e1 := (hA 85 1 (by kernel_rfl) (by simp)).trans (show f 1 = _ from hf 1 (by kernel_rfl))
                            exact Ri.wp_value _ (Ri.run_mv rfl e1) rfl
                          · refine Ri.StepZ.gq (by kernel_rfl) rfl rfl (by simp) fun f W hq hf A hA hB hO => ⟨hf 2 (by kernel_rfl), ?_⟩
                            have e1 := (hB 5 (by kernel_rfl)).trans (show _ = .pointer (some ⟨w.heap.size, 0, none⟩) by simp [Act.eval])
                            have h0 := (hq.facts.1 _ 0 hsx).trans y0
                            have h1 := (hq.facts.1 _ 1 hsx).trans y1
                            have h2 := (hq.facts.1 _ 2 hsx).trans y2
                            exact Ri.wp_value _ (Ri.run_ldagg (cs := [.slice A0 n0 c0, .slice A1 n1 c1, .slice A2 n2 c2]) rfl e1 (c3 h0 h1 h2) Try.underlying34 rfl (by kernel_rfl)) rfl
                          · refine Ri.StepZ.gq (by kernel_rfl) rfl rfl (by simp) fun f W hq hf A hA hB hO => ⟨hf 2 (by kernel_rfl), ?_⟩
                            have e1 := (hB 14 (by kernel_rfl)).trans (show _ = .pointer (some ⟨wx.heap.size, 0, none⟩) by simp [Act.eval])
                            exact Ri.wp_value _ (Ri.run_fld (f := _) rfl e1 Try.underlying97 rfl (sz := 0) (by kernel_rfl)) rfl
                          · refine Ri.StepZ.gq (by kernel_rfl) rfl rfl (by simp) fun f W hq hf A hA hB hO => ⟨hf 2 (by kernel_rfl), ?_⟩
                            have e1 := (hA 88 4 (by kernel_rfl) (by simp)).trans (show f 4 = _ from hf 4 (by kernel_rfl))
                            exact Ri.wp_value _ (Ri.run_ld1 rfl e1 Try.underlying9 rfl ((hq.facts.1 _ 2 hgx).trans u2)) rfl
                          · refine Ri.StepZ.gq (by kernel_rfl) rfl rfl (by simp) fun f W hq hf A hA hB hO => ⟨hf 2 (by kernel_rfl), ?_⟩
                            have e1 := (hA 87 3 (by kernel_rfl) (by simp)).trans (show f 3 = _ from hf 3 (by kernel_rfl))
                            have e2 := (hA 89 5 (by kernel_rfl) (by simp)).trans (show f 5 = _ from hf 5 (by kernel_rfl))
                            refine Ri.wp_call #[.agg #[.slice A0 n0 c0, .slice A1 n1 c1, .slice A2 n2 c2], .string nm] rfl (by simp [e1, e2]) Try.func66 (by kernel_rfl) (by kernel_rfl) ((HH1.out W (HQW.out.trans hq)).mono ?_)
                            rintro e w9 ⟨rfl, h1⟩
                            exact ⟨_, rfl, h1, rfl⟩
                          · refine Ri.StepZ.gq (by kernel_rfl) rfl rfl (by simp) fun f W hq hf A hA hB hO => ⟨hf 2 (by kernel_rfl), ?_⟩
                            have e1 := (hA 90 6 (by kernel_rfl) (by simp)).trans (show f 6 = _ from hf 6 (by kernel_rfl))
                            exact Ri.wp_value _ (Ri.run_mv rfl e1) rfl
                          · refine Ri.StepZ.gq (by kernel_rfl) rfl rfl (by simp) fun f W hq hf A hA hB hO => ⟨hf 7 (by kernel_rfl), ?_⟩
                            have e1 := (hB 0 (by kernel_rfl)).trans (show _ = .slice (some ⟨ba, oa, none⟩) n c by simp [Act.eval])
                            exact Ri.wp_value _ (Ri.run_mv rfl e1) rfl
                          · refine Ri.StepZ.gq (by kernel_rfl) rfl rfl (by simp) fun f W hq hf A hA hB hO => ⟨hf 7 (by kernel_rfl), ?_⟩
                            have e1 := (hB 1 (by kernel_rfl)).trans (show _ = .int .i64 ((k : Nat) : Int) by simp [Act.eval])
                            exact Ri.wp_value _ (Ri.run_mv rfl e1) rfl
                          · refine Ri.StepZ.gq (by kernel_rfl) rfl rfl (by simp) fun f W hq hf A hA hB hO => ⟨hf 7 (by kernel_rfl), ?_⟩
                            have e1 := (hA 92 8 (by kernel_rfl) (by simp)).trans (show f 8 = _ from hf 8 (by kernel_rfl))
                            have e2 := (hA 93 9 (by kernel_rfl) (by simp)).trans (show f 9 = _ from hf 9 (by kernel_rfl))
                            exact Ri.wp_value _ (Ri.run_idx rfl e1 e2 Try.underlying22 (sz := 3) (by kernel_rfl) HKK.out) rfl
                          · refine Ri.StepZ.gq (by kernel_rfl) rfl rfl (by simp) fun f W hq hf A hA hB hO => ⟨hf 7 (by kernel_rfl), ?_⟩
                            have e1 := (hA 94 10 (by kernel_rfl) (by simp)).trans (show f 10 = _ from hf 10 (by kernel_rfl))
                            have h0 := (hq.facts.1 _ _ hbax).trans p1
                            have h1 := (hq.facts.1 _ _ hbax).trans p2
                            have h2 := (hq.facts.1 _ _ hbax).trans p3
                            exact Ri.wp_value _ (Ri.run_ldagg (cs := [.slice B0 m0 d0, .slice B1 m1 d1, .slice B2 m2 d2]) rfl e1 (c3 h0 h1 h2) Try.underlying34 rfl (by kernel_rfl)) rfl
                          · refine Ri.StepZ.gq (by kernel_rfl) rfl rfl (by simp) fun f W hq hf A hA hB hO => ⟨hf 7 (by kernel_rfl), ?_⟩
                            have e1 := (hB 14 (by kernel_rfl)).trans (show _ = .pointer (some ⟨wx.heap.size, 0, none⟩) by simp [Act.eval])
                            exact Ri.wp_value _ (Ri.run_fld (f := _) rfl e1 Try.underlying97 rfl (sz := 0) (by kernel_rfl)) rfl
                          · refine Ri.StepZ.gq (by kernel_rfl) rfl rfl (by simp) fun f W hq hf A hA hB hO => ⟨hf 7 (by kernel_rfl), ?_⟩
                            have e1 := (hA 96 12 (by kernel_rfl) (by simp)).trans (show f 12 = _ from hf 12 (by kernel_rfl))
                            exact Ri.wp_value _ (Ri.run_ld1 rfl e1 Try.underlying9 rfl ((hq.facts.1 _ 2 hgx).trans u2)) rfl
                          · refine Ri.StepZ.gq (by kernel_rfl) rfl rfl (by simp) fun f W hq hf A hA hB hO => ⟨hf 7 (by kernel_rfl), ?_⟩
                            have e1 := (hA 95 11 (by kernel_rfl) (by simp)).trans (show f 11 = _ from hf 11 (by kernel_rfl))
                            have e2 := (hA 97 13 (by kernel_rfl) (by simp)).trans (show f 13 = _ from hf 13 (by kernel_rfl))
                            refine Ri.wp_call #[.agg #[.slice B0 m0 d0, .slice B1 m1 d1, .slice B2 m2 d2], .string nm] rfl (by simp [e1, e2]) Try.func66 (by kernel_rfl) (by kernel_rfl) ((HH2.out W (HQW.out.trans hq)).mono ?_)
                            rintro e w9 ⟨rfl, h1⟩
                            exact ⟨_, rfl, h1, rfl⟩
                          · refine Ri.StepZ.gq (by kernel_rfl) rfl rfl (by simp) fun f W hq hf A hA hB hO => ⟨hf 2 (by kernel_rfl), ?_⟩
                            have e1 := (hA 91 7 (by kernel_rfl) (by simp)).trans (show f 7 = _ from hf 7 (by kernel_rfl))
                            have e2 := (hA 98 14 (by kernel_rfl) (by simp)).trans (show f 14 = _ from hf 14 (by kernel_rfl))
                            exact Ri.wp_value _ (Ri.run_pick rfl e1 (by simpa using e2)) rfl
                          · refine Ri.StepZ.q (by kernel_rfl) rfl fun f W hq hf A hA hB hO => ?_
                            have e1 := (hA 86 2 (by kernel_rfl) (by simp)).trans (show f 2 = _ from hf 2 (by kernel_rfl))
                            have e2 := (hA 99 15 (by kernel_rfl) (by simp)).trans (show f 15 = _ from hf 15 (by kernel_rfl))
                            exact Ri.wp_value _ (Ri.run_pick rfl e1 (by simpa using e2)) rfl
                        · intro f W hq hf
                          have e16 : f 16 = .bool false := hf 16 (by decide) (by kernel_rfl)
                          simp only [Ri.acts, Act.put, List.setIfInBounds_toArray, List.set_cons_zero, List.set_cons_succ, Nat.zero_add, Nat.reduceAdd]
                          rw [e16]
                          have HXW := hide hq
                          clear hf hq e16
                          clear y0 y1 y2 p1 p2 p3 u2
                          go_wp2_with fail
                          go_roundw
                          case rel => exact ⟨j + 1, by omega, by go_num, HQV.out.trans HXW.out, by
                            have e := strW_step (f := f0) (st := ofk) G4.out
                            rw [if_neg (by rw [HFT.out]; decide), List.append_nil] at e
                            rw [e]
                            exact own_q HOB2.out (HQBV.out.trans HXW.out)⟩
                          case measure => simp [intOf] <;> omega
                · have hd1 : decide ((j : Int) < (r2 : Int)) = false := by simp; omega
                  have hd0 : decide (j < r2) = false := by simp; omega
                  obtain rfl : j = r2 := by omega
                  go_wp2_with fail
                  go_roundw
                  case rel => exact ⟨kk + 1, by omega, by go_num, HQX.out, by
                    have hx := HOX.out
                    have e0 : wq.take j = wq := List.take_of_length_le (by have := (HTQ.out _ (Q.refl _)).len; omega)
                    rw [HRS.out, if_neg HKI.out]
                    simpa only [e0] using hx⟩
                  case measure => simp [intOf] <;> omega
          · have hd1 : decide ((kk : Int) < (n : Int)) = false := by simp; omega
            have hd0 : decide (kk < n) = false := by simp; omega
            obtain rfl : kk = n := by omega
            obtain ⟨M, hM⟩ : ∃ M, covB (rawTo os k f0 kk) = M := ⟨_, rfl⟩
            have hcr : cx = runsTo M (N + 1) := by rw [HCR.out, HNN.out, HLL.out, hM]
            rw [hM] at hown
            have HCM := hide hcr
            have HRI := hide (fun i (h : i < 65535) => runI (M := M) i h)
            have HOM := hide hown
            clear hM hcr hown HOO hq
            go_wp2_with fail
            go_loopw [16, 17] (fun v6 vi wx => ∃ i : Nat, i ≤ N + 1 ∧ vi = .int .i64 i ∧ Q w4 wx ∧ wx.ownsRow w4.heap.size 4 1 (.slice (some ⟨w4.heap.size, 0, none⟩) (N + 1) (N + 1)) (N + 1) (markL (N + 1) M) ∧ wx.ownsRow w4.heap.size 74 2 v6 (runsTo M i).length ((runsTo M i).flatMap encP)) (fun _ vi _ => N + 1 - (intOf vi).toNat)
            case atStart => exact ⟨0, by omega, by go_num, HQO.out, HOM.out, World.ownsRow_nil _ _ _ _⟩
            case round =>
              obtain ⟨i, hi, rfl, hqx, hbx, hox⟩ := hrel
              obtain ⟨wx, rfl⟩ : ∃ wx : World, wx = wr := ⟨_, rfl⟩
              have HQX := hide hqx
              have HBX := hide hbx
              have HOX := hide hox
              by_cases hlti : i < N + 1
              · have hd1 : decide ((i : Int) < (N : Int) + 1) = true := by simp; omega
                have hiN : (i : Int) < (N : Int) + 1 := by omega
                obtain ⟨g, cg, eg, hgb, hgl, -, -, hcell, hfz⟩ := own_at hbx (by omega)
                cases eg
                have yc : wx.cell? ⟨w4.heap.size, i, none⟩ = some (.bool (M i)) := hcell i _ (mark_get hlti)
                cases hMi : M i with
                | false =>
                  rw [hMi] at yc
                  have HMI := hide hMi
                  clear hMi hcell hfz hqx hbx hox
                  obtain ⟨V6, c6, e6, -⟩ := own_form HOX.out
                  go_wp2_with fail
                  go_roundw
                  case rel => exact ⟨i + 1, by omega, by go_num, HQX.out, HBX.out, by
                    have e : runsTo M (i + 1) = runsTo M i := run_off HMI.out
                    rw [e]
                    exact HOX.out⟩
                  case measure => simp [intOf] <;> omega
                | true =>
                  rw [hMi] at yc
                  have HMI := hide hMi
                  rcases Nat.eq_zero_or_pos i with h0 | h0
                  · subst h0
                    clear hMi
                    obtain ⟨R, hR⟩ : ∃ R, runsTo M 0 = R := ⟨_, rfl⟩
                    have hrl := run_len M (0)
                    have HRN := hide (show runsTo M (0 + 1) = R ++ [mkSt (0) (0 + 1)] by rw [← hR]; exact run_new HMI.out (.inl rfl))
                    rw [hR] at HOX hrl
                    have HRL := hide (show R.length ≤ 5000 by have := HNB.out; omega)
                    have hrli : (R.length : Int) ≤ 5000 := by have := HRL.out; omega
                    obtain ⟨V6, c6, e6, -⟩ := own_form HOX.out
                    subst e6
                    clear hcell hfz hqx hbx hox hrl hR
                    go_wp2_with (at_builtin; go_loud (refine wpList_app1g rfl El_st _ _ rfl rfl HOX.out rfl rfl rfl ?_ ?_ ?_ ?_; (focus (intro u hu; simp at hu; rcases hu with rfl | rfl <;> rfl)); (focus (have := HRL.out; omega)); (focus (have := HQX.out.size; simp; omega)); intro v7 w7 hown7 hg7; have HQ7 := hide (q_grown HQX.out hg7 (fun k' e => (HOX.out.lt k' e).1)); have HB7 := hide (own_other HBX.out HOX.out hg7 (by decide)); obtain ⟨g7, c7, e7, h7b, h7l, c71, f71, hs7⟩ := after_app (l := R) hown7; subst e7; have HS7 := hide hs7; have HO7 := hide hown7; have yc7 : w7.cell? ⟨w4.heap.size, 0, none⟩ = some (.bool true) := mark_cell HB7.out hlti HMI.out; clear hown7 hg7 hs7))
                    go_roundw
                    case rel => exact ⟨0 + 1, by omega, by go_num, HQ7.out.set h7b _, own_set_other HB7.out (own_blk HO7.out rfl).choose_spec (by decide), by
                      rw [HRN.out, List.length_append, List.flatMap_append]
                      obtain ⟨v1, v2⟩ := mk_val (a := 0) (b := 0 + 1) (by have := HNB.out; omega) (by have := HNB.out; omega)
                      have h9 := HS7.out ((0 : Nat) + 1 : Int)
                      simpa [encP, v1, v2] using h9⟩
                    case measure => simp [intOf] <;> omega
                  · obtain ⟨j, rfl⟩ : ∃ j, i = j + 1 := ⟨i - 1, by omega⟩
                    have yp : wx.cell? ⟨w4.heap.size, j, none⟩ = some (.bool (M j)) := hcell j _ (mark_get (by omega))
                    cases hMj : M j with
                    | false =>
                      rw [hMj] at yp
                      have HMP := hide hMj
                      clear hMi hMj h0
                      obtain ⟨R, hR⟩ : ∃ R, runsTo M (j + 1) = R := ⟨_, rfl⟩
                      have hrl := run_len M (j + 1)
                      have HRN := hide (show runsTo M (j + 1 + 1) = R ++ [mkSt (j + 1) (j + 1 + 1)] by rw [← hR]; exact run_new HMI.out (.inr HMP.out))
                      rw [hR] at HOX hrl
                      have HRL := hide (show R.length ≤ 5000 by have := HNB.out; omega)
                      have hrli : (R.length : Int) ≤ 5000 := by have := HRL.out; omega
                      obtain ⟨V6, c6, e6, -⟩ := own_form HOX.out
                      subst e6
                      clear hcell hfz hqx hbx hox hrl hR
                      go_wp2_with (at_builtin; go_loud (refine wpList_app1g rfl El_st _ _ rfl rfl HOX.out rfl rfl rfl ?_ ?_ ?_ ?_; (focus (intro u hu; simp at hu; rcases hu with rfl | rfl <;> rfl)); (focus (have := HRL.out; omega)); (focus (have := HQX.out.size; simp; omega)); intro v7 w7 hown7 hg7; have HQ7 := hide (q_grown HQX.out hg7 (fun k' e => (HOX.out.lt k' e).1)); have HB7 := hide (own_other HBX.out HOX.out hg7 (by decide)); obtain ⟨g7, c7, e7, h7b, h7l, c71, f71, hs7⟩ := after_app (l := R) hown7; subst e7; have HS7 := hide hs7; have HO7 := hide hown7; have yc7 : w7.cell? ⟨w4.heap.size, j + 1, none⟩ = some (.bool true) := mark_cell HB7.out hlti HMI.out; clear hown7 hg7 hs7))
                      go_roundw
                      case rel => exact ⟨j + 1 + 1, by omega, by go_num, HQ7.out.set h7b _, own_set_other HB7.out (own_blk HO7.out rfl).choose_spec (by decide), by
                        rw [HRN.out, List.length_append, List.flatMap_append]
                        obtain ⟨v1, v2⟩ := mk_val (a := j + 1) (b := j + 1 + 1) (by have := HNB.out; omega) (by have := HNB.out; omega)
                        have h9 := HS7.out (((j + 1 : Nat) : Int) + 1)
                        simpa [encP, v1, v2] using h9⟩
                      case measure => simp [intOf] <;> omega
                    | true =>
                      rw [hMj] at yp
                      have HMP := hide hMj
                      clear hMi hMj h0
                      obtain ⟨init, l, hR, hl2⟩ := (HRI.out (j + 1) (by have := HNB.out; omega)).on (by omega) HMP.out
                      rw [hR] at hox
                      have hrl := run_len M (j + 1)
                      rw [hR] at hrl
                      have hlen : (init ++ [l]).length = init.length + 1 := by simp
                      have HRN := hide (show runsTo M (j + 1 + 1) = init ++ [(l.1, (mkSt (j + 1) (j + 1 + 1)).2)] by
                        show runStep M (runsTo M (j + 1)) (j + 1) = _
                        rw [hR]
                        exact run_on HMI.out (by rw [show j + 1 - 1 = j from rfl, HMP.out]; simp))
                      rw [hlen] at hox hrl
                      obtain ⟨g6, c6, e6, h6b, h6l, -, -, hc6, hz6⟩ := own_at hox (by omega)
                      subst e6
                      have f1 := flatMap_get (enc := encP) (k := 2) len_encP (init ++ [l]) init.length 1 l (by simp) (by decide)
                      have y1 : wx.cell? ⟨g6, init.length * 2 + 1, none⟩ = some (.int .i64 (l.2.val : Nat)) := hc6 _ _ f1
                      have z1 := hz6 (init.length * 2 + 1)
                      have hili : (init.length : Int) ≤ 5000 := by have := HNB.out; omega
                      have HOX2 := hide hox
                      clear hcell hfz hqx hbx hox hrl hR hlen f1 hc6 hz6 HOX
                      go_wp2_with fail
                      go_roundw
                      case rel => exact ⟨j + 1 + 1, by omega, by go_num, HQX.out.set h6b _, own_set_other HBX.out (own_blk HOX2.out rfl).choose_spec (by decide), by
                        obtain ⟨v1, v2⟩ := mk_val (a := j + 1) (b := j + 1 + 1) (by have := HNB.out; omega) (by have := HNB.out; omega)
                        have h9 := own_set HOX2.out (init.length * 2 + 1) (.int .i64 (((mkSt (j + 1) (j + 1 + 1)).2.val : Nat) : Int))
                        rw [flat_last] at h9
                        rw [HRN.out]
                        rw [v2] at h9
                        simpa using h9⟩
                      case measure => simp [intOf] <;> omega
              · have hd1 : decide ((i : Int) < (N : Int) + 1) = false := by simp; omega
                obtain rfl : i = N + 1 := by omega
                obtain ⟨V6, c6, e6, -⟩ := own_form hox
                subst e6
                clear hqx hbx hox hlti
                go_wp2_with fail
                go_ret2
                refine ⟨HQ4.out.trans HQX.out, V6, c6, ?_, ?_⟩
                · rw [HCZ.out, HCM.out]; rfl
                · rw [HCM.out]; exact Sl.own HOX.out len_encP (by decide)
end Go.Proofs.Ytiilkiggfjpibaa
