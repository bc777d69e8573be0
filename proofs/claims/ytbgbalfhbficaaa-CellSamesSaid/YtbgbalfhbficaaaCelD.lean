/- Cells: the reference's Same; bytes that are equal. Conditions: the cells read as such. -/
import Derived.Test.YtbgbalfhbficaaaCelC
namespace Go.Proofs.Ytbgbalfhbficaaa
open Go.RowKit
set_option linter.unusedVariables false
set_option linter.unusedSimpArgs false
set_option maxRecDepth 100000 in
set_option maxHeartbeats 4000000 in
theorem rSame_any {w : World} {a : Cel} (h : CelR w a) : ∀ W, Q w W → ∀ b, CelR W b → SameP W 22 a b := by
  induction h with
  | @mk n x y A len cap ps hn hsl hnil hcap hall ih =>
    intro W hqW b hb
    cases hb with
    | @mk m u v B k d qs hm hsl2 hnil2 hcap2 hall2 =>
      unfold SameP
      obtain ⟨r4, hr4⟩ : ∃ r4, (ps.length == qs.length && (ps.zip qs).all fun z => sameC z.1 z.2) = r4 := ⟨_, rfl⟩
      have HSM := hide (show sameC (.mk n x y A len cap ps) (.mk m u v B k d qs) = (n == m && (x == u && (y == v && r4))) by rw [sameC_mk, hr4])
      rw [HSM.out]
      show Calls _ _ #[.agg #[.int .i64 n, .bool x, .bool y, .slice A len cap], .agg #[.int .i64 m, .bool u, .bool v, .slice B k d]] W _
      obtain ⟨w1, hw1⟩ : ∃ w1, W.alloc (.cells #[.int .i64 n, .bool x, .bool y, .slice A len cap] 31) = w1 := ⟨_, rfl⟩
      have hq1 : Q W w1 := by rw [← hw1]; exact (Q.refl W).alloc _
      have hb1 : w1.heap[W.heap.size]? = some (.cells #[.int .i64 n, .bool x, .bool y, .slice A len cap] 31 (0, 0)) := by rw [← hw1]; exact heap_alloc_new W _
      have hs1 : W.heap.size < w1.heap.size := by rw [← hw1]; simp
      obtain ⟨w2, hw2⟩ : ∃ w2, w1.alloc (.cells #[.int .i64 m, .bool u, .bool v, .slice B k d] 31) = w2 := ⟨_, rfl⟩
      have hq2 : Q w1 w2 := by rw [← hw2]; exact (Q.refl w1).alloc _
      have hb2 : w2.heap[w1.heap.size]? = some (.cells #[.int .i64 m, .bool u, .bool v, .slice B k d] 31 (0, 0)) := by rw [← hw2]; exact heap_alloc_new w1 _
      have u0 := (hq2.facts.1 _ 0 hs1).trans (cell_blkJ (j := 0) hb1 rfl)
      have u1 := (hq2.facts.1 _ 1 hs1).trans (cell_blkJ (j := 1) hb1 rfl)
      have u2 := (hq2.facts.1 _ 2 hs1).trans (cell_blkJ (j := 2) hb1 rfl)
      have u3 := (hq2.facts.1 _ 3 hs1).trans (cell_blkJ (j := 3) hb1 rfl)
      have v0 : w2.cell? ⟨w1.heap.size, 0, none⟩ = some (.int .i64 m) := cell_blkJ (j := 0) hb2 rfl
      have v1 : w2.cell? ⟨w1.heap.size, 1, none⟩ = some (.bool u) := cell_blkJ (j := 1) hb2 rfl
      have v2 : w2.cell? ⟨w1.heap.size, 2, none⟩ = some (.bool v) := cell_blkJ (j := 2) hb2 rfl
      have v3 : w2.cell? ⟨w1.heap.size, 3, none⟩ = some (.slice B k d) := cell_blkJ (j := 3) hb2 rfl
      have hsz : w1.heap.size = W.heap.size + 1 := by rw [← hw1]; simp
      have hs2 : W.heap.size + 1 < w2.heap.size := by rw [← hsz, ← hw2]; simp
      have hs0 : W.heap.size < w2.heap.size := by omega
      rw [hsz] at v0 v1 v2 v3
      have HIH := hide (fun W' (hW' : Q w2 W') p (hp : p ∈ ps) q (hq : q ∈ qs) => ih p hp W' ((hqW.trans (hq1.trans hq2)).trans hW') q (((hall2 q hq).up (hq1.trans hq2)).up hW'))
      have H1 := hide (hsl.up (hqW.trans (hq1.trans hq2)))
      have H2 := hide (hsl2.up (hq1.trans hq2))
      have hni : (len : Int) ≤ 140737488351232 := by have := hsl.cap; omega
      have hmi : (k : Int) ≤ 140737488351232 := by have := hsl2.cap; omega
      have HL1 := hide hsl.len
      have HL2 := hide hsl2.len
      have HQ2 := hide (hq1.trans hq2)
      have HW1 := hide hw1
      have HW2 := hide hw2
      have HR4 := hide hr4
      have U3 := hide u3
      have V3 := hide v3
      clear hsz hn hsl hnil hcap hall ih hqW hm hsl2 hnil2 hcap2 hall2 hr4 hq1 hq2 hb1 hb2 hw1 hw2 HSM
      go_enter Try.func22, Try.ntmps22
      go_upto_region 1 with fail
      rw [HW1.out, HW2.out]
      cases h1 : (n == m) with
      | false =>
        have d1 : (n != m) = true := by simp [bne, h1]
        go_wp2_with fail
        go_ret
        exact ⟨by rw [h1]; rfl, HQ2.out⟩
      | true =>
        have d1 : (n != m) = false := by simp [bne, h1]
        cases h2 : (x == u) with
        | false =>
          have d2 : (x != u) = true := by simp [bne, h2]
          go_wp2_with fail
          go_ret
          exact ⟨by rw [h1, h2]; rfl, HQ2.out⟩
        | true =>
          have d2 : (x != u) = false := by simp [bne, h2]
          cases h3 : (y == v) with
          | false =>
            have d3 : (y != v) = true := by simp [bne, h3]
            go_wp2_with fail
            go_ret
            exact ⟨by rw [h1, h2, h3]; rfl, HQ2.out⟩
          | true =>
            have d3 : (y != v) = false := by simp [bne, h3]
            have HE : Hid ((n == m && (x == u && (y == v && r4))) = r4) := hide (by rw [h1, h2, h3]; rfl)
            by_cases hnm : len = k
            · subst hnm
              have d4 : ((len : Int) != (len : Int)) = false := by simp
              have HLE := hide (show (ps.length == qs.length) = true by rw [HL1.out, HL2.out]; simp)
              go_wp2_with fail
              clear h1 h2 h3 d1 d2 d3 d4 u0 u1 u2 u3 v0 v1 v2 v3
              go_loopw [5] (fun vi wr => ∃ j : Nat, j ≤ len ∧ vi = .int .i64 j ∧ ((ps.take j).zip (qs.take j)).all (fun z => sameC z.1 z.2) = true ∧ Q w2 wr) (fun vi _ => len - (intOf vi).toNat)
              case atStart => exact ⟨0, by omega, by go_num, by simp, Q.refl _⟩
              case round =>
                obtain ⟨j, hj, rfl, hall, hq⟩ := hrel
                obtain ⟨wx, rfl⟩ : ∃ wx : World, wx = wr := ⟨_, rfl⟩
                have HQ := hide hq
                have HALL := hide hall
                have u3 := (hq.facts.1 _ 3 hs0).trans U3.out
                have v3 := (hq.facts.1 _ 3 hs2).trans V3.out
                clear hall
                by_cases hlt : j < len
                · have hd1 : decide ((j : Int) < (len : Int)) = true := by simp; omega
                  have hd0 : decide (j < len) = true := by simp; omega
                  have hlti : (j : Int) < (len : Int) := by omega
                  obtain ⟨b, o, m1, x1, y1, B1, l1, e1, qs1, e, hb, hx, z0, z1, z2, z3⟩ := cel_at (H1.out.up hq) hlt
                  cases e
                  obtain ⟨b2, o2, m2, x2, y2, B2, l2, e2, qs2, e, hb2, hx2, t0, t1, t2, t3⟩ := cel_at (H2.out.up hq) hlt
                  cases e
                  obtain ⟨r, hr⟩ : ∃ r, sameC (.mk m1 x1 y1 B1 l1 e1 qs1) (.mk m2 x2 y2 B2 l2 e2 qs2) = r := ⟨_, rfl⟩
                  have HC := hide (fun W' (hW' : Q wx W') => HIH.out W' (hq.trans hW') _ (List.mem_of_getElem? hx) _ (List.mem_of_getElem? hx2))
                  unfold SameP at HC
                  rw [hr] at HC
                  have HR := hide hr
                  unfold Cel.v at HC
                  dsimp only at HC
                  have HX := hide hx
                  have HX2 := hide hx2
                  have hsx : W.heap.size < wx.heap.size := by have := HQ.out.size; omega
                  have hsx1 : W.heap.size + 1 < wx.heap.size := by have := HQ.out.size; omega
                  clear hx hx2 hq hr
                  go_upto_region 6 with fail
                  have hxc := ext_cell
                  refine wp_region_ext (by kernel_rfl) (by kernel_rfl) ?_
                  repeat (go_big_quiet_step (((go_at_call 22; exact ext_call (HC.out _ (q_ext _ _))))))
                  clear hxc
                  refine wpQuiet_nil ?_
                  intro wz hwwz
                  have hqwz := q_of_ext hwwz
                  clear hwwz
                  obtain ⟨hcwz, hfwz, hzwz⟩ := hqwz.facts
                  try simp at hzwz
                  try have hs0wz : w.heap.size < wz.heap.size := by omega
                  try have hs1wz : w.heap.size + 1 < wz.heap.size := by omega
                  clear hcwz hfwz z0 z1 z2 z3 t0 t1 t2 t3 u3 v3
                  cases r with
                  | true =>
                    go_wp2_with fail
                    go_roundw
                    case rel => exact ⟨j + 1, by omega, by go_num, by rw [zip_take HX.out HX2.out, HALL.out, HR.out]; rfl, HQ.out.trans hqwz⟩
                    case measure => simp [intOf] <;> omega
                  | false =>
                    go_wp2_with fail
                    go_ret
                    exact ⟨by rw [HE.out, ← HR4.out, zip_bad HX.out HX2.out HR.out, Bool.and_false]; rfl, HQ2.out.trans (HQ.out.trans hqwz)⟩
                · have hd1 : decide ((j : Int) < (len : Int)) = false := by simp; omega
                  have hd0 : decide (j < len) = false := by simp; omega
                  obtain rfl : j = len := by omega
                  clear hq
                  go_wp2_with fail
                  go_ret
                  have hall := HALL.out
                  rw [List.take_of_length_le (by have := HL1.out; omega), List.take_of_length_le (by have := HL2.out; omega)] at hall
                  exact ⟨by rw [HE.out, ← HR4.out, HLE.out, hall]; rfl, HQ2.out.trans HQ.out⟩
            · have d4 : ((len : Int) != (k : Int)) = true := by simp; omega
              have HLE := hide (show (ps.length == qs.length) = false by rw [HL1.out, HL2.out]; simp; omega)
              clear hnm
              go_wp2_with fail
              go_ret
              exact ⟨by rw [HE.out, ← HR4.out, HLE.out]; rfl, HQ2.out⟩
end Go.Proofs.Ytbgbalfhbficaaa
