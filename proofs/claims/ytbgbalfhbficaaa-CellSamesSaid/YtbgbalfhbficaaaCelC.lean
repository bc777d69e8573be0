/- Cells: Same of the program and of the reference. Conditions: the cells read as such. -/
import Derived.Test.YtbgbalfhbficaaaCelB
import Derived.Deep.DeepCutAuto
import Derived.Deep.RegionWith
import Derived.BigRegion
import Derived.BigQuiet
namespace Go.Proofs.Ytbgbalfhbficaaa
open Go.RowKit
set_option linter.unusedVariables false
set_option linter.unusedSimpArgs false
theorem cell_blkJ {w : World} {g j : Nat} {cs : Array Value} {ty : TypeId} {u : Value} (h : w.heap[g]? = some (.cells cs ty (0, 0))) (hu : cs[j]? = some u) : w.cell? ⟨g, j, none⟩ = some u := by
  rw [cell_of_row w g j cs ty (0, 0) h]
  exact hu
def SameP (W : World) (f : Nat) (p q : Cel) : Prop := Calls Try.prog f #[p.v, q.v] W fun e w' => e = .returned (.bool (sameC p q)) ∧ Q W w'
set_option maxRecDepth 100000 in
set_option maxHeartbeats 4000000 in
theorem EqualFunc_any {A : Option Addr} {n c : Nat} {ps : List Cel} {B : Option Addr} {m d : Nat} {qs : List Cel} {W : World} (h1 : Sl 4 encC W A n c ps) (h2 : Sl 4 encC W B m d qs) (hc1 : c ≤ 140737488351232) (hc2 : d ≤ 140737488351232)
    (hf : ∀ W', Q W W' → ∀ p ∈ ps, ∀ q ∈ qs, SameP W' 14 p q) :
    Calls Try.prog 38 #[.slice A n c, .slice B m d, .func (.func 14) #[] #[]] W fun e w' => e = .returned (.bool (ps.length == qs.length && (ps.zip qs).all fun z => sameC z.1 z.2)) ∧ Q W w' := by
  have hl1 := h1.len
  have hl2 := h2.len
  have hni : (n : Int) ≤ 140737488351232 := by have := h1.cap; omega
  have hmi : (m : Int) ≤ 140737488351232 := by have := h2.cap; omega
  have H1 := hide h1
  have H2 := hide h2
  have HF := hide hf
  have HL1 := hide hl1
  have HL2 := hide hl2
  clear h1 h2 hc1 hc2 hf hl1 hl2
  by_cases hnm : n = m
  · subst hnm
    have d0 : ((n : Int) != (n : Int)) = false := by simp
    have HLE := hide (show (ps.length == qs.length) = true by rw [HL1.out, HL2.out]; simp)
    go_enter Try.func38, Try.ntmps38
    go_wp2_with fail
    go_loopw [17] (fun vi wr => ∃ k : Nat, k ≤ n ∧ vi = .int .i64 k ∧ ((ps.take k).zip (qs.take k)).all (fun z => sameC z.1 z.2) = true ∧ Q W wr) (fun vi _ => n - (intOf vi).toNat)
    case atStart => exact ⟨0, by omega, by go_num, by simp, Q.refl _⟩
    case round =>
      obtain ⟨k, hk, rfl, hall, hq⟩ := hrel
      obtain ⟨wx, rfl⟩ : ∃ wx : World, wx = wr := ⟨_, rfl⟩
      have HQ := hide hq
      have HALL := hide hall
      clear hall
      by_cases hlt : k < n
      · have hd1 : decide ((k : Int) < (n : Int)) = true := by simp; omega
        have hd0 : decide (k < n) = true := by simp; omega
        have hlti : (k : Int) < (n : Int) := by omega
        obtain ⟨b, o, m1, x1, y1, B1, l1, e1, qs1, e, hb, hx, z0, z1, z2, z3⟩ := cel_at (H1.out.up hq) hlt
        cases e
        obtain ⟨b2, o2, m2, x2, y2, B2, l2, e2, qs2, e, hb2, hx2, t0, t1, t2, t3⟩ := cel_at (H2.out.up hq) hlt
        cases e
        obtain ⟨wa, hwa⟩ : ∃ wa, wx.alloc (.cells #[.int .i64 m1, .bool x1, .bool y1, .slice B1 l1 e1] 31) = wa := ⟨_, rfl⟩
        have hqa : Q wx wa := by rw [← hwa]; exact (Q.refl wx).alloc _
        have hba : wa.heap[wx.heap.size]? = some (.cells #[.int .i64 m1, .bool x1, .bool y1, .slice B1 l1 e1] 31 (0, 0)) := by rw [← hwa]; exact heap_alloc_new wx _
        have hsa : wx.heap.size < wa.heap.size := by rw [← hwa]; simp
        have t0' := (hqa.facts.1 _ _ hb2).trans t0
        have t1' := (hqa.facts.1 _ _ hb2).trans t1
        have t2' := (hqa.facts.1 _ _ hb2).trans t2
        have t3' := (hqa.facts.1 _ _ hb2).trans t3
        obtain ⟨wb, hwb⟩ : ∃ wb, wa.alloc (.cells #[.int .i64 m2, .bool x2, .bool y2, .slice B2 l2 e2] 31) = wb := ⟨_, rfl⟩
        have hqb : Q wa wb := by rw [← hwb]; exact (Q.refl wa).alloc _
        have hbb : wb.heap[wa.heap.size]? = some (.cells #[.int .i64 m2, .bool x2, .bool y2, .slice B2 l2 e2] 31 (0, 0)) := by rw [← hwb]; exact heap_alloc_new wa _
        have u0 := (hqb.facts.1 _ 0 hsa).trans (cell_blkJ (j := 0) hba rfl)
        have u1 := (hqb.facts.1 _ 1 hsa).trans (cell_blkJ (j := 1) hba rfl)
        have u2 := (hqb.facts.1 _ 2 hsa).trans (cell_blkJ (j := 2) hba rfl)
        have u3 := (hqb.facts.1 _ 3 hsa).trans (cell_blkJ (j := 3) hba rfl)
        have v0 : wb.cell? ⟨wa.heap.size, 0, none⟩ = some (.int .i64 m2) := cell_blkJ (j := 0) hbb rfl
        have v1 : wb.cell? ⟨wa.heap.size, 1, none⟩ = some (.bool x2) := cell_blkJ (j := 1) hbb rfl
        have v2 : wb.cell? ⟨wa.heap.size, 2, none⟩ = some (.bool y2) := cell_blkJ (j := 2) hbb rfl
        have v3 : wb.cell? ⟨wa.heap.size, 3, none⟩ = some (.slice B2 l2 e2) := cell_blkJ (j := 3) hbb rfl
        have HQB := hide (hq.trans (hqa.trans hqb))
        have HC := hide (HF.out wb (hq.trans (hqa.trans hqb)) _ (List.mem_of_getElem? hx) _ (List.mem_of_getElem? hx2))
        have HX := hide hx
        have HX2 := hide hx2
        have HWA := hide hwa
        have HWB := hide hwb
        obtain ⟨r, hr⟩ : ∃ r, sameC (.mk m1 x1 y1 B1 l1 e1 qs1) (.mk m2 x2 y2 B2 l2 e2 qs2) = r := ⟨_, rfl⟩
        unfold SameP at HC
        rw [hr] at HC
        have HR := hide hr
        unfold Cel.v at HC
        dsimp only at HC
        clear hx hx2 hq hqa hqb hba hbb hwa hwb hr t0 t1 t2 t3
        go_upto_region 6 with fail
        rw [HWA.out]
        go_upto_region 7 with fail
        rw [HWB.out]
        clear z0 z1 z2 z3 t0' t1' t2' t3'
        go_wp2_with fail
        refine HC.out.mono ?_
        rintro e w2 ⟨rfl, hq2⟩
        have HQ2 := hide (HQB.out.trans hq2)
        clear hq2 u0 u1 u2 u3 v0 v1 v2 v3
        cases r with
        | true =>
          go_wp2_with fail
          go_roundw
          case rel => exact ⟨k + 1, by omega, by go_num, by rw [zip_take HX.out HX2.out, HALL.out, HR.out]; rfl, HQ2.out⟩
          case measure => simp [intOf] <;> omega
        | false =>
          go_wp2_with fail
          go_ret
          exact ⟨by rw [zip_bad HX.out HX2.out HR.out, Bool.and_false]; rfl, HQ2.out⟩
      · have hd1 : decide ((k : Int) < (n : Int)) = false := by simp; omega
        have hd0 : decide (k < n) = false := by simp; omega
        obtain rfl : k = n := by omega
        clear hq
        go_wp2_with fail
        go_ret
        have hall := HALL.out
        rw [List.take_of_length_le (by have := HL1.out; omega), List.take_of_length_le (by have := HL2.out; omega)] at hall
        exact ⟨by rw [HLE.out, hall]; rfl, HQ.out⟩
  · have d0 : ((n : Int) != (m : Int)) = true := by simp; omega
    have HLE := hide (show (ps.length == qs.length) = false by rw [HL1.out, HL2.out]; simp; omega)
    clear hnm
    go_enter Try.func38, Try.ntmps38
    go_wp2_with fail
    go_ret
    exact ⟨by rw [HLE.out]; rfl, Q.refl _⟩
set_option maxRecDepth 100000 in
set_option maxHeartbeats 4000000 in
theorem Same_any {w : World} {a : Cel} (h : CelR w a) : ∀ W, Q w W → ∀ b, CelR W b → SameP W 14 a b := by
  induction h with
  | @mk n x y A len cap ps hn hsl hnil hcap hall ih =>
    intro W hqW b hb
    cases hb with
    | @mk m u v B k d qs hm hsl2 hnil2 hcap2 hall2 =>
      unfold SameP
      obtain ⟨r4, hr4⟩ : ∃ r4, (ps.length == qs.length && (ps.zip qs).all fun z => sameC z.1 z.2) = r4 := ⟨_, rfl⟩
      have HSM := hide (show sameC (.mk n x y A len cap ps) (.mk m u v B k d qs) = (n == m && (x == u && (y == v && r4))) by rw [sameC_mk, hr4])
      rw [HSM.out]
      show Calls _ _ #[.agg #[.int .i64 n, .bool x, .bool y, .slice A len cap], .agg #[.int .i64 m, .bool u, .bool v, .slice B k d]] W _
      obtain ⟨w1, hw1⟩ : ∃ w1, W.alloc (.cells #[.int .i64 n, .bool x, .bool y, .slice A len cap] 31) = w1 := ⟨_, rfl⟩
      have hq1 : Q W w1 := by rw [← hw1]; exact (Q.refl W).alloc _
      have hb1 : w1.heap[W.heap.size]? = some (.cells #[.int .i64 n, .bool x, .bool y, .slice A len cap] 31 (0, 0)) := by rw [← hw1]; exact heap_alloc_new W _
      have hs1 : W.heap.size < w1.heap.size := by rw [← hw1]; simp
      obtain ⟨w2, hw2⟩ : ∃ w2, w1.alloc (.cells #[.int .i64 m, .bool u, .bool v, .slice B k d] 31) = w2 := ⟨_, rfl⟩
      have hq2 : Q w1 w2 := by rw [← hw2]; exact (Q.refl w1).alloc _
      have hb2 : w2.heap[w1.heap.size]? = some (.cells #[.int .i64 m, .bool u, .bool v, .slice B k d] 31 (0, 0)) := by rw [← hw2]; exact heap_alloc_new w1 _
      have u0 := (hq2.facts.1 _ 0 hs1).trans (cell_blkJ (j := 0) hb1 rfl)
      have u1 := (hq2.facts.1 _ 1 hs1).trans (cell_blkJ (j := 1) hb1 rfl)
      have u2 := (hq2.facts.1 _ 2 hs1).trans (cell_blkJ (j := 2) hb1 rfl)
      have u3 := (hq2.facts.1 _ 3 hs1).trans (cell_blkJ (j := 3) hb1 rfl)
      have v0 : w2.cell? ⟨w1.heap.size, 0, none⟩ = some (.int .i64 m) := cell_blkJ (j := 0) hb2 rfl
      have v1 : w2.cell? ⟨w1.heap.size, 1, none⟩ = some (.bool u) := cell_blkJ (j := 1) hb2 rfl
      have v2 : w2.cell? ⟨w1.heap.size, 2, none⟩ = some (.bool v) := cell_blkJ (j := 2) hb2 rfl
      have v3 : w2.cell? ⟨w1.heap.size, 3, none⟩ = some (.slice B k d) := cell_blkJ (j := 3) hb2 rfl
      have HEQ := hide (EqualFunc_any (hsl.up (hqW.trans (hq1.trans hq2))) (hsl2.up (hq1.trans hq2)) hcap hcap2 (fun W' hW' p hp q hq => ih p hp W' ((hqW.trans (hq1.trans hq2)).trans hW') q (((hall2 q hq).up (hq1.trans hq2)).up hW')))
      rw [hr4] at HEQ
      have hsz : w1.heap.size = W.heap.size + 1 := by rw [← hw1]; simp
      rw [hsz] at v0 v1 v2 v3
      have HQ2 := hide (hq1.trans hq2)
      have HW1 := hide hw1
      have HW2 := hide hw2
      clear hsz hn hsl hnil hcap hall ih hqW hm hsl2 hnil2 hcap2 hall2 hr4 hq1 hq2 hb1 hb2 hw1 hw2 HSM
      go_enter Try.func14, Try.ntmps14
      go_upto_region 1 with fail
      rw [HW1.out, HW2.out]
      cases h1 : (n == m) with
      | false =>
        go_wp2_with fail
        go_ret
        exact ⟨by rw [h1]; rfl, HQ2.out⟩
      | true =>
        cases h2 : (x == u) with
        | false =>
          go_wp2_with fail
          go_ret
          exact ⟨by rw [h1, h2]; rfl, HQ2.out⟩
        | true =>
          cases h3 : (y == v) with
          | false =>
            go_wp2_with fail
            go_ret
            exact ⟨by rw [h1, h2, h3]; rfl, HQ2.out⟩
          | true =>
            go_wp2_with fail
            refine HEQ.out.mono ?_
            rintro e w3 ⟨rfl, hq3⟩
            clear u0 u1 u2 u3 v0 v1 v2 v3
            go_wp2_with fail
            go_ret
            exact ⟨by rw [h1, h2, h3]; rfl, HQ2.out.trans hq3⟩
end Go.Proofs.Ytbgbalfhbficaaa
