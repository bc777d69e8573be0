/- The reference's put. The reference's set. The reference's Free. The reference's peaked and Store. Conditions: as each theorem says. -/
import Derived.Test.YtegpkcbmgjoicaaGreatHsU2
namespace Go.Proofs.YtegpkcbmgjoicaaGreat
open Go.RowKit HP
set_option linter.unusedVariables false
def insR : List (Int × Int) → Int × Int → List (Int × Int)
  | [], p => [p]
  | q :: r, p => if p.1 < q.1 then p :: q :: r else q :: insR r p
theorem insR_at : ∀ (l : List (Int × Int)) (i : Nat) (p q : Int × Int), (∀ (j : Nat) (r : Int × Int), j < i → l[j]? = some r → ¬p.1 < r.1) → l[i]? = some q → p.1 < q.1 → insR l p = l.take i ++ p :: l.drop i
  | [], i, p, q, _, h, _ => by simp at h
  | r :: l, 0, p, q, _, h, hq => by
    simp at h
    subst h
    simp [insR, hq]
  | r :: l, i + 1, p, q, ha, h, hq => by
    have h0 := ha 0 r (by omega) rfl
    rw [insR, if_neg h0, insR_at l i p q (fun j s hj hs => ha (j + 1) s (by omega) (by simpa using hs)) (by simpa using h) hq]
    simp
theorem insR_end : ∀ (l : List (Int × Int)) (p : Int × Int), (∀ (j : Nat) (r : Int × Int), l[j]? = some r → ¬p.1 < r.1) → insR l p = l ++ [p]
  | [], p, _ => rfl
  | r :: l, p, ha => by
    have h0 := ha 0 r rfl
    rw [insR, if_neg h0, insR_end l p fun j s hs => ha (j + 1) s (by simpa using hs)]
    rfl
def putR (m : RM) (at_ z : Int) : RM := { m with bl := insR m.bl (at_, z), top := if m.kind = 1 ∨ m.kind = 2 then at_ + z else m.top }
def PutI (bl : List (Int × Int)) (p : Int × Int) (i : Nat) (o : List (Int × Int)) (dn : Bool) : Prop :=
  (dn = false ∧ (∀ (j : Nat) (r : Int × Int), j < i → bl[j]? = some r → ¬p.1 < r.1) ∧ o = bl.take i) ∨ (dn = true ∧ insR bl p = o ++ bl.drop i)
theorem PutI.tt {bl : List (Int × Int)} {p q : Int × Int} {i : Nat} {o : List (Int × Int)} (h : PutI bl p i o true) (hq : bl[i]? = some q) : PutI bl p (i + 1) (o ++ [q]) true := by
  obtain ⟨hi, e⟩ := List.getElem?_eq_some_iff.1 hq
  rcases h with ⟨h, _⟩ | ⟨_, h⟩
  · cases h
  · exact .inr ⟨rfl, by rw [h, List.drop_eq_getElem_cons hi, e]; simp⟩
theorem PutI.ft {bl : List (Int × Int)} {p q : Int × Int} {i : Nat} {o : List (Int × Int)} (h : PutI bl p i o false) (hq : bl[i]? = some q) (hlt : p.1 < q.1) : PutI bl p (i + 1) (o ++ [p] ++ [q]) true := by
  obtain ⟨hi, e⟩ := List.getElem?_eq_some_iff.1 hq
  rcases h with ⟨_, h, ho⟩ | ⟨h, _⟩
  · exact .inr ⟨rfl, by rw [insR_at bl i p q h hq hlt, ho, List.drop_eq_getElem_cons hi, e]; simp⟩
  · cases h
theorem PutI.ff {bl : List (Int × Int)} {p q : Int × Int} {i : Nat} {o : List (Int × Int)} (h : PutI bl p i o false) (hq : bl[i]? = some q) (hlt : ¬p.1 < q.1) : PutI bl p (i + 1) (o ++ [q]) false := by
  obtain ⟨hi, e⟩ := List.getElem?_eq_some_iff.1 hq
  rcases h with ⟨_, h, ho⟩ | ⟨h, _⟩
  · refine .inl ⟨rfl, fun j r hj hr => ?_, by rw [List.take_succ_eq_append_getElem hi, e, ho]⟩
    rcases Nat.lt_or_eq_of_le (Nat.le_of_lt_succ hj) with h3 | h3
    · exact h j r h3 hr
    · rw [h3, hq] at hr
      cases hr
      exact hlt
  · cases h
theorem PutI.end_t {bl : List (Int × Int)} {p : Int × Int} {i : Nat} {o : List (Int × Int)} (h : PutI bl p i o true) (hi : bl.length ≤ i) : o = insR bl p := by
  rcases h with ⟨h, _⟩ | ⟨_, h⟩
  · cases h
  · rw [h, List.drop_of_length_le hi, List.append_nil]
theorem PutI.end_f {bl : List (Int × Int)} {p : Int × Int} {i : Nat} {o : List (Int × Int)} (h : PutI bl p i o false) (hi : bl.length ≤ i) : o ++ [p] = insR bl p := by
  rcases h with ⟨_, h, ho⟩ | ⟨h, _⟩
  · rw [insR_end bl p fun j r hr => h j r (by have := (List.getElem?_eq_some_iff.1 hr).1; omega) hr, ho, List.take_of_length_le hi]
  · cases h
set_option maxRecDepth 100000 in
set_option maxHeartbeats 8000000 in
theorem rPut_any (v : RV) (at_ z : Int) (w : World) (H : RmR w v) (N : RmN v.m) (ha0 : 0 ≤ at_) (ha1 : at_ ≤ 4096) (hz0 : 0 ≤ z) (hz1 : z ≤ 4096) : Calls Tryz.prog 57 #[v.val, .int .i64 at_, .int .i64 z] w fun e w' => ∃ v', e = .returned v'.val ∧ v'.m = putR v.m at_ z ∧ RmR w' v' ∧ v'.B = v.B ∧ v'.k = v.k ∧ v'.d = v.d ∧ w'.ownsRow w.heap.size 88 2 (.slice v'.A v'.n v'.c) v'.n (v'.m.bl.flatMap encP) ∧ Q w w' := by
  obtain ⟨A, n, c, B, k, d, ⟨m0, m1, m2, bl, ys, m5, m6, m7, m8⟩⟩ := v
  unfold RV.val RV.cells
  dsimp only at H N ⊢
  have hl := H.b.len
  dsimp only at hl
  have hn := N.n
  dsimp only at hn
  have HS := hide (show Sl 2 encP w A n c bl from H.b)
  have HRM := hide H
  have HL := hide hl
  have hni : (n : Int) ≤ 100 := by omega
  have hni0 : n ≤ 100 := by omega
  obtain ⟨w1, hw1⟩ : ∃ w1, (w.alloc (.cells #[.int .i64 m0, .int .i64 m1, .int .i64 m2, .slice A n c, .slice B k d, .int .i64 m5, .int .i64 m6, .int .i64 m7, .int .i64 m8] MT)).alloc (.cells #[.int .i64 0, .int .i64 0, .int .i64 0, .slice none 0 0, .slice none 0 0, .int .i64 0, .int .i64 0, .int .i64 0, .int .i64 0] MT) = w1 := ⟨_, rfl⟩
  have hq1 : Q w w1 := by rw [← hw1]; exact ((Q.refl w).alloc _).alloc _
  have hs1 : w.heap.size + 1 < w1.heap.size := by rw [← hw1]; simp
  have hs0 : w.heap.size < w1.heap.size := by omega
  have hr0 : w1.heap[w.heap.size]? = some (.cells #[.int .i64 m0, .int .i64 m1, .int .i64 m2, .slice A n c, .slice B k d, .int .i64 m5, .int .i64 m6, .int .i64 m7, .int .i64 m8] MT (0, 0)) := by
    rw [← hw1, ((Q.refl (w.alloc _)).alloc _).below.block _ (by simp)]
    exact heap_alloc_new w _
  have hr1 : w1.heap[w.heap.size + 1]? = some (.cells #[.int .i64 0, .int .i64 0, .int .i64 0, .slice none 0 0, .slice none 0 0, .int .i64 0, .int .i64 0, .int .i64 0, .int .i64 0] MT (0, 0)) := by
    have h := heap_alloc_new (w.alloc (.cells #[.int .i64 m0, .int .i64 m1, .int .i64 m2, .slice A n c, .slice B k d, .int .i64 m5, .int .i64 m6, .int .i64 m7, .int .i64 m8] MT)) (.cells #[.int .i64 0, .int .i64 0, .int .i64 0, .slice none 0 0, .slice none 0 0, .int .i64 0, .int .i64 0, .int .i64 0, .int .i64 0] MT)
    rw [show (w.alloc (.cells #[.int .i64 m0, .int .i64 m1, .int .i64 m2, .slice A n c, .slice B k d, .int .i64 m5, .int .i64 m6, .int .i64 m7, .int .i64 m8] MT)).heap.size = w.heap.size + 1 by simp, hw1] at h
    exact h
  have HW1 := hide hw1
  have HR0 := hide hr0
  have HR1 := hide hr1
  clear H N hl hn hw1 hr0 hr1
  go_enter Tryz.func57, Tryz.ntmps57
  go_wp2_with fail
  rw [HW1.out]
  go_loopw [7, 8, 9] (fun vs vd vi wr => ∃ (i : Nat) (o : List (Int × Int)) (dn : Bool), i ≤ n ∧ vi = .int .i64 (i : Int) ∧ vd = .bool dn ∧ wr.ownsRow w1.heap.size 88 2 vs o.length (o.flatMap encP) ∧ o.length ≤ i + dn.toNat ∧ Hid (PutI bl (at_, z) i o dn) ∧ Q w1 wr) (fun _ _ vi _ => n - (intOf vi).toNat)
  case atStart => exact ⟨0, [], false, by omega, by go_num, rfl, World.ownsRow_nil _ _ _ _, by simp, hide (.inl ⟨rfl, fun j r hj => by omega, by simp⟩), Q.refl _⟩
  case round =>
    obtain ⟨i, o, dn, hi, rfl, rfl, hown, hol, HI, hq⟩ := hrel
    have hsz := hq.size
    have HQ := hide hq
    by_cases hlt : i < n
    · have hd1 : decide ((i : Int) < (n : Int)) = true := by simp; omega
      have hd0 : decide (i < n) = true := by simp; omega
      have hlti : (i : Int) < (n : Int) := by omega
      obtain ⟨b1, o1, x3, y3, rfl, hb3, g3, z1', z2'⟩ := HS.out.pr i hlt
      have Z1 := hide z1'
      have Z2 := hide z2'
      have G3 := hide g3
      have z1 := ((hq1.trans hq).facts.1 _ _ hb3).trans z1'
      have z2 := ((hq1.trans hq).facts.1 _ _ hb3).trans z2'
      have k3 : wr.cell? ⟨w.heap.size, 3, none⟩ = some (.slice (some ⟨b1, o1, none⟩) n c) := by rw [cell_of_row _ _ _ _ _ _ ((hq.below.block _ hs0).trans HR0.out)]; rfl
      obtain ⟨Ao, co, eo, ho1, ho2, ho3, -⟩ := own_form hown
      subst eo
      clear hq z1' z2' g3 ho3
      cases dn
      · have hol : o.length ≤ i := by simpa using hol
        by_cases e1 : at_ < x3
        · have d1 : decide (at_ < x3) = true := by simpa using e1
          have NX := hide (HI.out.ft G3.out e1)
          clear HI e1
          go_wp2_with (first | (at_builtin; refine wpList_app1 rfl El_pair _ _ rfl rfl hown5 (by simp) rfl rfl ?_ ?_ ?_ ?_; (focus (simp [Value.oneCell'])); (focus omega); (focus omega); intro v2 w7 hown7 hb7) | (at_builtin; refine wpList_app1 rfl El_pair _ _ rfl rfl hown (by simp) rfl rfl ?_ ?_ ?_ ?_; (focus (simp [Value.oneCell'])); (focus omega); (focus omega); intro v1 w5 hown5 hb5; have hq5 := q_below HQ.out hb5 (Nat.le_refl _); have hsz5 := hq5.size; have k3 : w5.cell? ⟨w.heap.size, 3, none⟩ = some (.slice (some ⟨b1, o1, none⟩) n c) := (by rw [cell_of_row _ _ _ _ _ _ ((hq5.below.block _ hs0).trans HR0.out)]; rfl); have z1 := ((hq1.trans hq5).facts.1 _ _ hb3).trans Z1.out; have z2 := ((hq1.trans hq5).facts.1 _ _ hb3).trans Z2.out; have HQ5 := hide hq5; clear hq5))
          go_roundw
          case rel => exact ⟨i + 1, o ++ [(at_, z)] ++ [(x3, y3)], true, by omega, by go_num, rfl, by simpa [List.flatMap_append, encP] using hown7, by simp; omega, NX, q_below HQ5.out hb7 (Nat.le_refl _)⟩
          case measure => simp [intOf] <;> omega
        · have d1 : decide (at_ < x3) = false := by simpa using e1
          have NX := hide (HI.out.ff G3.out e1)
          clear HI
          go_wp2_with ((at_builtin; refine wpList_app1 rfl El_pair _ _ rfl rfl hown (by simp) rfl rfl ?_ ?_ ?_ ?_; (focus (simp [Value.oneCell'])); (focus omega); (focus omega); intro v1 w5 hown5 hb5))
          go_roundw
          case rel => exact ⟨i + 1, o ++ [(x3, y3)], false, by omega, by go_num, rfl, by simpa [List.flatMap_append, encP] using hown5, by simp; omega, NX, q_below HQ.out hb5 (Nat.le_refl _)⟩
          case measure => simp [intOf] <;> omega
      · have hol : o.length ≤ i + 1 := by simpa using hol
        have NX := hide (HI.out.tt G3.out)
        clear HI
        go_wp2_with ((at_builtin; refine wpList_app1 rfl El_pair _ _ rfl rfl hown (by simp) rfl rfl ?_ ?_ ?_ ?_; (focus (simp [Value.oneCell'])); (focus omega); (focus omega); intro v1 w5 hown5 hb5))
        go_roundw
        case rel => exact ⟨i + 1, o ++ [(x3, y3)], true, by omega, by go_num, rfl, by simpa [List.flatMap_append, encP] using hown5, by simp; omega, NX, q_below HQ.out hb5 (Nat.le_refl _)⟩
        case measure => simp [intOf] <;> omega
    · have hd1 : decide ((i : Int) < (n : Int)) = false := by simp; omega
      have hd0 : decide (i < n) = false := by simp; omega
      obtain rfl : i = n := by omega
      cases dn
      · have hol : o.length ≤ i := by simpa using hol
        obtain ⟨L, hL⟩ : ∃ L, L = o ++ [(at_, z)] := ⟨_, rfl⟩
        have HLO := hide hL
        have HLL := hide (show L = insR bl (at_, z) by rw [hL]; exact HI.out.end_f (by have := HL.out; omega))
        have HLN := hide (show L.length = o.length + 1 by rw [hL]; simp)
        have HLF := hide (show L.flatMap encP = o.flatMap encP ++ #[.int .i64 at_, .int .i64 z].toList by rw [hL]; simp [encP])
        have k3 : wr.cell? ⟨w.heap.size, 3, none⟩ = some (.slice A i c) := by rw [cell_of_row _ _ _ _ _ _ ((hq.below.block _ hs0).trans HR0.out)]; rfl
        clear hL HI hq
        by_cases e1 : m0 = 1
        · subst e1
          have hgm : putR ⟨1, m1, m2, bl, ys, m5, m6, m7, m8⟩ at_ z = ⟨1, m1, m2, L, ys, at_ + z, m6, m7, m8⟩ := by
            unfold putR
            dsimp only
            rw [if_pos (by omega), ← HLL.out]
          have HGM := hide hgm
          clear hgm
          go_wp2_with ((at_builtin; refine wpList_app1 rfl El_pair _ _ rfl rfl hown (by simp) rfl rfl ?_ ?_ ?_ ?_; (focus (simp [Value.oneCell'])); (focus omega); (focus omega); intro v1 w5 hown5 hb5; have hq5 := q_below HQ.out hb5 (Nat.le_refl _); have hsz5 := hq5.size; (have q0 := (hq5.below.block _ hs0).trans HR0.out; have q1 := (hq5.below.block _ hs1).trans HR1.out; have k0 : w5.cell? ⟨w.heap.size, 0, none⟩ = some (.int .i64 1) := (by rw [cell_of_row _ _ _ _ _ _ q0]; rfl); have k1 : w5.cell? ⟨w.heap.size, 1, none⟩ = some (.int .i64 m1) := (by rw [cell_of_row _ _ _ _ _ _ q0]; rfl); have k2 : w5.cell? ⟨w.heap.size, 2, none⟩ = some (.int .i64 m2) := (by rw [cell_of_row _ _ _ _ _ _ q0]; rfl); have k3 : w5.cell? ⟨w.heap.size, 3, none⟩ = some (.slice A i c) := (by rw [cell_of_row _ _ _ _ _ _ q0]; rfl); have k4 : w5.cell? ⟨w.heap.size, 4, none⟩ = some (.slice B k d) := (by rw [cell_of_row _ _ _ _ _ _ q0]; rfl); have k5 : w5.cell? ⟨w.heap.size, 5, none⟩ = some (.int .i64 m5) := (by rw [cell_of_row _ _ _ _ _ _ q0]; rfl); have k6 : w5.cell? ⟨w.heap.size, 6, none⟩ = some (.int .i64 m6) := (by rw [cell_of_row _ _ _ _ _ _ q0]; rfl); have k7 : w5.cell? ⟨w.heap.size, 7, none⟩ = some (.int .i64 m7) := (by rw [cell_of_row _ _ _ _ _ _ q0]; rfl); have k8 : w5.cell? ⟨w.heap.size, 8, none⟩ = some (.int .i64 m8) := (by rw [cell_of_row _ _ _ _ _ _ q0]; rfl); have f3 : w5.frozen? ⟨w.heap.size, 3, none⟩ = false := frozen_of_row _ _ _ _ _ q0; have f5 : w5.frozen? ⟨w.heap.size, 5, none⟩ = false := frozen_of_row _ _ _ _ _ q0; have z0 : w5.cell? ⟨w.heap.size + 1, 0, none⟩ = some (.int .i64 0) := (by rw [cell_of_row _ _ _ _ _ _ q1]; rfl); have y0 : w5.frozen? ⟨w.heap.size + 1, 0, none⟩ = false := frozen_of_row _ _ _ _ _ q1; have z1 : w5.cell? ⟨w.heap.size + 1, 1, none⟩ = some (.int .i64 0) := (by rw [cell_of_row _ _ _ _ _ _ q1]; rfl); have y1 : w5.frozen? ⟨w.heap.size + 1, 1, none⟩ = false := frozen_of_row _ _ _ _ _ q1; have z2 : w5.cell? ⟨w.heap.size + 1, 2, none⟩ = some (.int .i64 0) := (by rw [cell_of_row _ _ _ _ _ _ q1]; rfl); have y2 : w5.frozen? ⟨w.heap.size + 1, 2, none⟩ = false := frozen_of_row _ _ _ _ _ q1; have z3 : w5.cell? ⟨w.heap.size + 1, 3, none⟩ = some (.slice none 0 0) := (by rw [cell_of_row _ _ _ _ _ _ q1]; rfl); have y3 : w5.frozen? ⟨w.heap.size + 1, 3, none⟩ = false := frozen_of_row _ _ _ _ _ q1; have z4 : w5.cell? ⟨w.heap.size + 1, 4, none⟩ = some (.slice none 0 0) := (by rw [cell_of_row _ _ _ _ _ _ q1]; rfl); have y4 : w5.frozen? ⟨w.heap.size + 1, 4, none⟩ = false := frozen_of_row _ _ _ _ _ q1; have z5 : w5.cell? ⟨w.heap.size + 1, 5, none⟩ = some (.int .i64 0) := (by rw [cell_of_row _ _ _ _ _ _ q1]; rfl); have y5 : w5.frozen? ⟨w.heap.size + 1, 5, none⟩ = false := frozen_of_row _ _ _ _ _ q1; have z6 : w5.cell? ⟨w.heap.size + 1, 6, none⟩ = some (.int .i64 0) := (by rw [cell_of_row _ _ _ _ _ _ q1]; rfl); have y6 : w5.frozen? ⟨w.heap.size + 1, 6, none⟩ = false := frozen_of_row _ _ _ _ _ q1; have z7 : w5.cell? ⟨w.heap.size + 1, 7, none⟩ = some (.int .i64 0) := (by rw [cell_of_row _ _ _ _ _ _ q1]; rfl); have y7 : w5.frozen? ⟨w.heap.size + 1, 7, none⟩ = false := frozen_of_row _ _ _ _ _ q1; have z8 : w5.cell? ⟨w.heap.size + 1, 8, none⟩ = some (.int .i64 0) := (by rw [cell_of_row _ _ _ _ _ _ q1]; rfl); have y8 : w5.frozen? ⟨w.heap.size + 1, 8, none⟩ = false := frozen_of_row _ _ _ _ _ q1); have HQ1 := hide q1; clear q0 q1; have HOWx := hide (show w5.ownsRow w1.heap.size 88 2 v1 L.length (L.flatMap encP) from (by rw [HLN.out, HLF.out]; exact hown5)); obtain ⟨Ao, co, eo, ho1, ho2, ho3, -⟩ := own_form HOWx.out; subst eo; have HOW := hide HOWx.out; have HQ := hide (hq1.trans hq5); have hg0 : w.heap.size < w5.heap.size := (by omega); have hg1 : w.heap.size + 1 < w5.heap.size := (by omega); clear ho3 HOWx hown5 hb5 hq5 hq1))
          have hrz : ((w5.setCell ⟨w.heap.size, 3, none⟩ (.slice Ao L.length co)).setCell ⟨w.heap.size, 5, none⟩ (.int .i64 (at_ + z))).heap[w.heap.size + 1]? = some (.cells #[.int .i64 0, .int .i64 0, .int .i64 0, .slice none 0 0, .slice none 0 0, .int .i64 0, .int .i64 0, .int .i64 0, .int .i64 0] MT (0, 0)) := by
            rw [heap_setCell_other _ _ _ _ (by simp), heap_setCell_other _ _ _ _ (by simp)]
            exact HQ1.out
          have hg := row9 (w := ((w5.setCell ⟨w.heap.size, 3, none⟩ (.slice Ao L.length co)).setCell ⟨w.heap.size, 5, none⟩ (.int .i64 (at_ + z)))) (b := w.heap.size + 1) (.int .i64 1) (.int .i64 m1) (.int .i64 m2) (.slice Ao L.length co) (.slice B k d) (.int .i64 (at_ + z)) (.int .i64 m6) (.int .i64 m7) (.int .i64 m8) hrz
          have hO := own9 (w := ((w5.setCell ⟨w.heap.size, 3, none⟩ (.slice Ao L.length co)).setCell ⟨w.heap.size, 5, none⟩ (.int .i64 (at_ + z)))) (b := w.heap.size + 1) (.int .i64 1) (.int .i64 m1) (.int .i64 m2) (.slice Ao L.length co) (.slice B k d) (.int .i64 (at_ + z)) (.int .i64 m6) (.int .i64 m7) (.int .i64 m8) (own1 (own1 HOW.out hs0) hs0) hs1
          have hF := q9 (w0 := w) (w := ((w5.setCell ⟨w.heap.size, 3, none⟩ (.slice Ao L.length co)).setCell ⟨w.heap.size, 5, none⟩ (.int .i64 (at_ + z)))) (b := w.heap.size + 1) (.int .i64 1) (.int .i64 m1) (.int .i64 m2) (.slice Ao L.length co) (.slice B k d) (.int .i64 (at_ + z)) (.int .i64 m6) (.int .i64 m7) (.int .i64 m8) ((HQ.out.set (Nat.le_refl _) _).set (Nat.le_refl _) _) (by omega)
          refine bodyPost_ret (v := .agg #[(.int .i64 1), (.int .i64 m1), (.int .i64 m2), (.slice Ao L.length co), (.slice B k d), (.int .i64 (at_ + z)), (.int .i64 m6), (.int .i64 m7), (.int .i64 m8)]) (ret_m1 (p := 6) rfl rfl (by simp) hg) rfl ?_
          refine ⟨⟨Ao, L.length, co, B, k, d, ⟨1, m1, m2, L, ys, (at_ + z), m6, m7, m8⟩⟩, rfl, HGM.out.symm, ⟨Sl.own hO (fun _ => rfl) (by decide), HRM.out.y.up hF, fun h => ?_, HRM.out.yn, TyA.own hO, HRM.out.tb.up hF⟩, rfl, rfl, rfl, own_low hO (by omega), hF⟩
          dsimp only at h
          subst h
          exact own_none hO
        by_cases e2 : m0 = 2
        · subst e2
          have hgm : putR ⟨2, m1, m2, bl, ys, m5, m6, m7, m8⟩ at_ z = ⟨2, m1, m2, L, ys, at_ + z, m6, m7, m8⟩ := by
            unfold putR
            dsimp only
            rw [if_pos (by omega), ← HLL.out]
          have HGM := hide hgm
          clear hgm
          go_wp2_with ((at_builtin; refine wpList_app1 rfl El_pair _ _ rfl rfl hown (by simp) rfl rfl ?_ ?_ ?_ ?_; (focus (simp [Value.oneCell'])); (focus omega); (focus omega); intro v1 w5 hown5 hb5; have hq5 := q_below HQ.out hb5 (Nat.le_refl _); have hsz5 := hq5.size; (have q0 := (hq5.below.block _ hs0).trans HR0.out; have q1 := (hq5.below.block _ hs1).trans HR1.out; have k0 : w5.cell? ⟨w.heap.size, 0, none⟩ = some (.int .i64 2) := (by rw [cell_of_row _ _ _ _ _ _ q0]; rfl); have k1 : w5.cell? ⟨w.heap.size, 1, none⟩ = some (.int .i64 m1) := (by rw [cell_of_row _ _ _ _ _ _ q0]; rfl); have k2 : w5.cell? ⟨w.heap.size, 2, none⟩ = some (.int .i64 m2) := (by rw [cell_of_row _ _ _ _ _ _ q0]; rfl); have k3 : w5.cell? ⟨w.heap.size, 3, none⟩ = some (.slice A i c) := (by rw [cell_of_row _ _ _ _ _ _ q0]; rfl); have k4 : w5.cell? ⟨w.heap.size, 4, none⟩ = some (.slice B k d) := (by rw [cell_of_row _ _ _ _ _ _ q0]; rfl); have k5 : w5.cell? ⟨w.heap.size, 5, none⟩ = some (.int .i64 m5) := (by rw [cell_of_row _ _ _ _ _ _ q0]; rfl); have k6 : w5.cell? ⟨w.heap.size, 6, none⟩ = some (.int .i64 m6) := (by rw [cell_of_row _ _ _ _ _ _ q0]; rfl); have k7 : w5.cell? ⟨w.heap.size, 7, none⟩ = some (.int .i64 m7) := (by rw [cell_of_row _ _ _ _ _ _ q0]; rfl); have k8 : w5.cell? ⟨w.heap.size, 8, none⟩ = some (.int .i64 m8) := (by rw [cell_of_row _ _ _ _ _ _ q0]; rfl); have f3 : w5.frozen? ⟨w.heap.size, 3, none⟩ = false := frozen_of_row _ _ _ _ _ q0; have f5 : w5.frozen? ⟨w.heap.size, 5, none⟩ = false := frozen_of_row _ _ _ _ _ q0; have z0 : w5.cell? ⟨w.heap.size + 1, 0, none⟩ = some (.int .i64 0) := (by rw [cell_of_row _ _ _ _ _ _ q1]; rfl); have y0 : w5.frozen? ⟨w.heap.size + 1, 0, none⟩ = false := frozen_of_row _ _ _ _ _ q1; have z1 : w5.cell? ⟨w.heap.size + 1, 1, none⟩ = some (.int .i64 0) := (by rw [cell_of_row _ _ _ _ _ _ q1]; rfl); have y1 : w5.frozen? ⟨w.heap.size + 1, 1, none⟩ = false := frozen_of_row _ _ _ _ _ q1; have z2 : w5.cell? ⟨w.heap.size + 1, 2, none⟩ = some (.int .i64 0) := (by rw [cell_of_row _ _ _ _ _ _ q1]; rfl); have y2 : w5.frozen? ⟨w.heap.size + 1, 2, none⟩ = false := frozen_of_row _ _ _ _ _ q1; have z3 : w5.cell? ⟨w.heap.size + 1, 3, none⟩ = some (.slice none 0 0) := (by rw [cell_of_row _ _ _ _ _ _ q1]; rfl); have y3 : w5.frozen? ⟨w.heap.size + 1, 3, none⟩ = false := frozen_of_row _ _ _ _ _ q1; have z4 : w5.cell? ⟨w.heap.size + 1, 4, none⟩ = some (.slice none 0 0) := (by rw [cell_of_row _ _ _ _ _ _ q1]; rfl); have y4 : w5.frozen? ⟨w.heap.size + 1, 4, none⟩ = false := frozen_of_row _ _ _ _ _ q1; have z5 : w5.cell? ⟨w.heap.size + 1, 5, none⟩ = some (.int .i64 0) := (by rw [cell_of_row _ _ _ _ _ _ q1]; rfl); have y5 : w5.frozen? ⟨w.heap.size + 1, 5, none⟩ = false := frozen_of_row _ _ _ _ _ q1; have z6 : w5.cell? ⟨w.heap.size + 1, 6, none⟩ = some (.int .i64 0) := (by rw [cell_of_row _ _ _ _ _ _ q1]; rfl); have y6 : w5.frozen? ⟨w.heap.size + 1, 6, none⟩ = false := frozen_of_row _ _ _ _ _ q1; have z7 : w5.cell? ⟨w.heap.size + 1, 7, none⟩ = some (.int .i64 0) := (by rw [cell_of_row _ _ _ _ _ _ q1]; rfl); have y7 : w5.frozen? ⟨w.heap.size + 1, 7, none⟩ = false := frozen_of_row _ _ _ _ _ q1; have z8 : w5.cell? ⟨w.heap.size + 1, 8, none⟩ = some (.int .i64 0) := (by rw [cell_of_row _ _ _ _ _ _ q1]; rfl); have y8 : w5.frozen? ⟨w.heap.size + 1, 8, none⟩ = false := frozen_of_row _ _ _ _ _ q1); have HQ1 := hide q1; clear q0 q1; have HOWx := hide (show w5.ownsRow w1.heap.size 88 2 v1 L.length (L.flatMap encP) from (by rw [HLN.out, HLF.out]; exact hown5)); obtain ⟨Ao, co, eo, ho1, ho2, ho3, -⟩ := own_form HOWx.out; subst eo; have HOW := hide HOWx.out; have HQ := hide (hq1.trans hq5); have hg0 : w.heap.size < w5.heap.size := (by omega); have hg1 : w.heap.size + 1 < w5.heap.size := (by omega); clear ho3 HOWx hown5 hb5 hq5 hq1))
          have hrz : ((w5.setCell ⟨w.heap.size, 3, none⟩ (.slice Ao L.length co)).setCell ⟨w.heap.size, 5, none⟩ (.int .i64 (at_ + z))).heap[w.heap.size + 1]? = some (.cells #[.int .i64 0, .int .i64 0, .int .i64 0, .slice none 0 0, .slice none 0 0, .int .i64 0, .int .i64 0, .int .i64 0, .int .i64 0] MT (0, 0)) := by
            rw [heap_setCell_other _ _ _ _ (by simp), heap_setCell_other _ _ _ _ (by simp)]
            exact HQ1.out
          have hg := row9 (w := ((w5.setCell ⟨w.heap.size, 3, none⟩ (.slice Ao L.length co)).setCell ⟨w.heap.size, 5, none⟩ (.int .i64 (at_ + z)))) (b := w.heap.size + 1) (.int .i64 2) (.int .i64 m1) (.int .i64 m2) (.slice Ao L.length co) (.slice B k d) (.int .i64 (at_ + z)) (.int .i64 m6) (.int .i64 m7) (.int .i64 m8) hrz
          have hO := own9 (w := ((w5.setCell ⟨w.heap.size, 3, none⟩ (.slice Ao L.length co)).setCell ⟨w.heap.size, 5, none⟩ (.int .i64 (at_ + z)))) (b := w.heap.size + 1) (.int .i64 2) (.int .i64 m1) (.int .i64 m2) (.slice Ao L.length co) (.slice B k d) (.int .i64 (at_ + z)) (.int .i64 m6) (.int .i64 m7) (.int .i64 m8) (own1 (own1 HOW.out hs0) hs0) hs1
          have hF := q9 (w0 := w) (w := ((w5.setCell ⟨w.heap.size, 3, none⟩ (.slice Ao L.length co)).setCell ⟨w.heap.size, 5, none⟩ (.int .i64 (at_ + z)))) (b := w.heap.size + 1) (.int .i64 2) (.int .i64 m1) (.int .i64 m2) (.slice Ao L.length co) (.slice B k d) (.int .i64 (at_ + z)) (.int .i64 m6) (.int .i64 m7) (.int .i64 m8) ((HQ.out.set (Nat.le_refl _) _).set (Nat.le_refl _) _) (by omega)
          refine bodyPost_ret (v := .agg #[(.int .i64 2), (.int .i64 m1), (.int .i64 m2), (.slice Ao L.length co), (.slice B k d), (.int .i64 (at_ + z)), (.int .i64 m6), (.int .i64 m7), (.int .i64 m8)]) (ret_m1 (p := 6) rfl rfl (by simp) hg) rfl ?_
          refine ⟨⟨Ao, L.length, co, B, k, d, ⟨2, m1, m2, L, ys, (at_ + z), m6, m7, m8⟩⟩, rfl, HGM.out.symm, ⟨Sl.own hO (fun _ => rfl) (by decide), HRM.out.y.up hF, fun h => ?_, HRM.out.yn, TyA.own hO, HRM.out.tb.up hF⟩, rfl, rfl, rfl, own_low hO (by omega), hF⟩
          dsimp only at h
          subst h
          exact own_none hO
        have b1 : (m0 == 1) = false := by simpa using e1
        have d1 : decide (m0 = 1) = false := by simpa using e1
        have b2 : (m0 == 2) = false := by simpa using e2
        have d2 : decide (m0 = 2) = false := by simpa using e2
        have hgm : putR ⟨m0, m1, m2, bl, ys, m5, m6, m7, m8⟩ at_ z = ⟨m0, m1, m2, L, ys, m5, m6, m7, m8⟩ := by
          unfold putR
          dsimp only
          rw [if_neg (by omega), ← HLL.out]
        have HGM := hide hgm
        clear hgm
        go_wp2_with ((at_builtin; refine wpList_app1 rfl El_pair _ _ rfl rfl hown (by simp) rfl rfl ?_ ?_ ?_ ?_; (focus (simp [Value.oneCell'])); (focus omega); (focus omega); intro v1 w5 hown5 hb5; have hq5 := q_below HQ.out hb5 (Nat.le_refl _); have hsz5 := hq5.size; (have q0 := (hq5.below.block _ hs0).trans HR0.out; have q1 := (hq5.below.block _ hs1).trans HR1.out; have k0 : w5.cell? ⟨w.heap.size, 0, none⟩ = some (.int .i64 m0) := (by rw [cell_of_row _ _ _ _ _ _ q0]; rfl); have k1 : w5.cell? ⟨w.heap.size, 1, none⟩ = some (.int .i64 m1) := (by rw [cell_of_row _ _ _ _ _ _ q0]; rfl); have k2 : w5.cell? ⟨w.heap.size, 2, none⟩ = some (.int .i64 m2) := (by rw [cell_of_row _ _ _ _ _ _ q0]; rfl); have k3 : w5.cell? ⟨w.heap.size, 3, none⟩ = some (.slice A i c) := (by rw [cell_of_row _ _ _ _ _ _ q0]; rfl); have k4 : w5.cell? ⟨w.heap.size, 4, none⟩ = some (.slice B k d) := (by rw [cell_of_row _ _ _ _ _ _ q0]; rfl); have k5 : w5.cell? ⟨w.heap.size, 5, none⟩ = some (.int .i64 m5) := (by rw [cell_of_row _ _ _ _ _ _ q0]; rfl); have k6 : w5.cell? ⟨w.heap.size, 6, none⟩ = some (.int .i64 m6) := (by rw [cell_of_row _ _ _ _ _ _ q0]; rfl); have k7 : w5.cell? ⟨w.heap.size, 7, none⟩ = some (.int .i64 m7) := (by rw [cell_of_row _ _ _ _ _ _ q0]; rfl); have k8 : w5.cell? ⟨w.heap.size, 8, none⟩ = some (.int .i64 m8) := (by rw [cell_of_row _ _ _ _ _ _ q0]; rfl); have f3 : w5.frozen? ⟨w.heap.size, 3, none⟩ = false := frozen_of_row _ _ _ _ _ q0; have f5 : w5.frozen? ⟨w.heap.size, 5, none⟩ = false := frozen_of_row _ _ _ _ _ q0; have z0 : w5.cell? ⟨w.heap.size + 1, 0, none⟩ = some (.int .i64 0) := (by rw [cell_of_row _ _ _ _ _ _ q1]; rfl); have y0 : w5.frozen? ⟨w.heap.size + 1, 0, none⟩ = false := frozen_of_row _ _ _ _ _ q1; have z1 : w5.cell? ⟨w.heap.size + 1, 1, none⟩ = some (.int .i64 0) := (by rw [cell_of_row _ _ _ _ _ _ q1]; rfl); have y1 : w5.frozen? ⟨w.heap.size + 1, 1, none⟩ = false := frozen_of_row _ _ _ _ _ q1; have z2 : w5.cell? ⟨w.heap.size + 1, 2, none⟩ = some (.int .i64 0) := (by rw [cell_of_row _ _ _ _ _ _ q1]; rfl); have y2 : w5.frozen? ⟨w.heap.size + 1, 2, none⟩ = false := frozen_of_row _ _ _ _ _ q1; have z3 : w5.cell? ⟨w.heap.size + 1, 3, none⟩ = some (.slice none 0 0) := (by rw [cell_of_row _ _ _ _ _ _ q1]; rfl); have y3 : w5.frozen? ⟨w.heap.size + 1, 3, none⟩ = false := frozen_of_row _ _ _ _ _ q1; have z4 : w5.cell? ⟨w.heap.size + 1, 4, none⟩ = some (.slice none 0 0) := (by rw [cell_of_row _ _ _ _ _ _ q1]; rfl); have y4 : w5.frozen? ⟨w.heap.size + 1, 4, none⟩ = false := frozen_of_row _ _ _ _ _ q1; have z5 : w5.cell? ⟨w.heap.size + 1, 5, none⟩ = some (.int .i64 0) := (by rw [cell_of_row _ _ _ _ _ _ q1]; rfl); have y5 : w5.frozen? ⟨w.heap.size + 1, 5, none⟩ = false := frozen_of_row _ _ _ _ _ q1; have z6 : w5.cell? ⟨w.heap.size + 1, 6, none⟩ = some (.int .i64 0) := (by rw [cell_of_row _ _ _ _ _ _ q1]; rfl); have y6 : w5.frozen? ⟨w.heap.size + 1, 6, none⟩ = false := frozen_of_row _ _ _ _ _ q1; have z7 : w5.cell? ⟨w.heap.size + 1, 7, none⟩ = some (.int .i64 0) := (by rw [cell_of_row _ _ _ _ _ _ q1]; rfl); have y7 : w5.frozen? ⟨w.heap.size + 1, 7, none⟩ = false := frozen_of_row _ _ _ _ _ q1; have z8 : w5.cell? ⟨w.heap.size + 1, 8, none⟩ = some (.int .i64 0) := (by rw [cell_of_row _ _ _ _ _ _ q1]; rfl); have y8 : w5.frozen? ⟨w.heap.size + 1, 8, none⟩ = false := frozen_of_row _ _ _ _ _ q1); have HQ1 := hide q1; clear q0 q1; have HOWx := hide (show w5.ownsRow w1.heap.size 88 2 v1 L.length (L.flatMap encP) from (by rw [HLN.out, HLF.out]; exact hown5)); obtain ⟨Ao, co, eo, ho1, ho2, ho3, -⟩ := own_form HOWx.out; subst eo; have HOW := hide HOWx.out; have HQ := hide (hq1.trans hq5); have hg0 : w.heap.size < w5.heap.size := (by omega); have hg1 : w.heap.size + 1 < w5.heap.size := (by omega); clear ho3 HOWx hown5 hb5 hq5 hq1))
        have hrz : (w5.setCell ⟨w.heap.size, 3, none⟩ (.slice Ao L.length co)).heap[w.heap.size + 1]? = some (.cells #[.int .i64 0, .int .i64 0, .int .i64 0, .slice none 0 0, .slice none 0 0, .int .i64 0, .int .i64 0, .int .i64 0, .int .i64 0] MT (0, 0)) := by
          rw [heap_setCell_other _ _ _ _ (by simp)]
          exact HQ1.out
        have hg := row9 (w := (w5.setCell ⟨w.heap.size, 3, none⟩ (.slice Ao L.length co))) (b := w.heap.size + 1) (.int .i64 m0) (.int .i64 m1) (.int .i64 m2) (.slice Ao L.length co) (.slice B k d) (.int .i64 m5) (.int .i64 m6) (.int .i64 m7) (.int .i64 m8) hrz
        have hO := own9 (w := (w5.setCell ⟨w.heap.size, 3, none⟩ (.slice Ao L.length co))) (b := w.heap.size + 1) (.int .i64 m0) (.int .i64 m1) (.int .i64 m2) (.slice Ao L.length co) (.slice B k d) (.int .i64 m5) (.int .i64 m6) (.int .i64 m7) (.int .i64 m8) (own1 HOW.out hs0) hs1
        have hF := q9 (w0 := w) (w := (w5.setCell ⟨w.heap.size, 3, none⟩ (.slice Ao L.length co))) (b := w.heap.size + 1) (.int .i64 m0) (.int .i64 m1) (.int .i64 m2) (.slice Ao L.length co) (.slice B k d) (.int .i64 m5) (.int .i64 m6) (.int .i64 m7) (.int .i64 m8) (HQ.out.set (Nat.le_refl _) _) (by omega)
        refine bodyPost_ret (v := .agg #[(.int .i64 m0), (.int .i64 m1), (.int .i64 m2), (.slice Ao L.length co), (.slice B k d), (.int .i64 m5), (.int .i64 m6), (.int .i64 m7), (.int .i64 m8)]) (ret_m1 (p := 6) rfl rfl (by simp) hg) rfl ?_
        refine ⟨⟨Ao, L.length, co, B, k, d, ⟨m0, m1, m2, L, ys, m5, m6, m7, m8⟩⟩, rfl, HGM.out.symm, ⟨Sl.own hO (fun _ => rfl) (by decide), HRM.out.y.up hF, fun h => ?_, HRM.out.yn, TyA.own hO, HRM.out.tb.up hF⟩, rfl, rfl, rfl, own_low hO (by omega), hF⟩
        dsimp only at h
        subst h
        exact own_none hO
      · have hol : o.length ≤ i + 1 := by simpa using hol
        obtain ⟨Ao, co, eo, ho1, ho2, ho3, -⟩ := own_form hown
        subst eo
        have HLL := hide (show o = insR bl (at_, z) from HI.out.end_t (by have := HL.out; omega))
        obtain ⟨L, hL⟩ : ∃ L, L = o := ⟨_, rfl⟩
        subst hL
        have HOW := hide hown
        have q0 := (hq.below.block _ hs0).trans HR0.out
        have q1 := (hq.below.block _ hs1).trans HR1.out
        have k0 : wr.cell? ⟨w.heap.size, 0, none⟩ = some (.int .i64 m0) := by rw [cell_of_row _ _ _ _ _ _ q0]; rfl
        have k1 : wr.cell? ⟨w.heap.size, 1, none⟩ = some (.int .i64 m1) := by rw [cell_of_row _ _ _ _ _ _ q0]; rfl
        have k2 : wr.cell? ⟨w.heap.size, 2, none⟩ = some (.int .i64 m2) := by rw [cell_of_row _ _ _ _ _ _ q0]; rfl
        have k3 : wr.cell? ⟨w.heap.size, 3, none⟩ = some (.slice A i c) := by rw [cell_of_row _ _ _ _ _ _ q0]; rfl
        have k4 : wr.cell? ⟨w.heap.size, 4, none⟩ = some (.slice B k d) := by rw [cell_of_row _ _ _ _ _ _ q0]; rfl
        have k5 : wr.cell? ⟨w.heap.size, 5, none⟩ = some (.int .i64 m5) := by rw [cell_of_row _ _ _ _ _ _ q0]; rfl
        have k6 : wr.cell? ⟨w.heap.size, 6, none⟩ = some (.int .i64 m6) := by rw [cell_of_row _ _ _ _ _ _ q0]; rfl
        have k7 : wr.cell? ⟨w.heap.size, 7, none⟩ = some (.int .i64 m7) := by rw [cell_of_row _ _ _ _ _ _ q0]; rfl
        have k8 : wr.cell? ⟨w.heap.size, 8, none⟩ = some (.int .i64 m8) := by rw [cell_of_row _ _ _ _ _ _ q0]; rfl
        have f3 : wr.frozen? ⟨w.heap.size, 3, none⟩ = false := frozen_of_row _ _ _ _ _ q0
        have f5 : wr.frozen? ⟨w.heap.size, 5, none⟩ = false := frozen_of_row _ _ _ _ _ q0
        have z0 : wr.cell? ⟨w.heap.size + 1, 0, none⟩ = some (.int .i64 0) := by rw [cell_of_row _ _ _ _ _ _ q1]; rfl
        have y0 : wr.frozen? ⟨w.heap.size + 1, 0, none⟩ = false := frozen_of_row _ _ _ _ _ q1
        have z1 : wr.cell? ⟨w.heap.size + 1, 1, none⟩ = some (.int .i64 0) := by rw [cell_of_row _ _ _ _ _ _ q1]; rfl
        have y1 : wr.frozen? ⟨w.heap.size + 1, 1, none⟩ = false := frozen_of_row _ _ _ _ _ q1
        have z2 : wr.cell? ⟨w.heap.size + 1, 2, none⟩ = some (.int .i64 0) := by rw [cell_of_row _ _ _ _ _ _ q1]; rfl
        have y2 : wr.frozen? ⟨w.heap.size + 1, 2, none⟩ = false := frozen_of_row _ _ _ _ _ q1
        have z3 : wr.cell? ⟨w.heap.size + 1, 3, none⟩ = some (.slice none 0 0) := by rw [cell_of_row _ _ _ _ _ _ q1]; rfl
        have y3 : wr.frozen? ⟨w.heap.size + 1, 3, none⟩ = false := frozen_of_row _ _ _ _ _ q1
        have z4 : wr.cell? ⟨w.heap.size + 1, 4, none⟩ = some (.slice none 0 0) := by rw [cell_of_row _ _ _ _ _ _ q1]; rfl
        have y4 : wr.frozen? ⟨w.heap.size + 1, 4, none⟩ = false := frozen_of_row _ _ _ _ _ q1
        have z5 : wr.cell? ⟨w.heap.size + 1, 5, none⟩ = some (.int .i64 0) := by rw [cell_of_row _ _ _ _ _ _ q1]; rfl
        have y5 : wr.frozen? ⟨w.heap.size + 1, 5, none⟩ = false := frozen_of_row _ _ _ _ _ q1
        have z6 : wr.cell? ⟨w.heap.size + 1, 6, none⟩ = some (.int .i64 0) := by rw [cell_of_row _ _ _ _ _ _ q1]; rfl
        have y6 : wr.frozen? ⟨w.heap.size + 1, 6, none⟩ = false := frozen_of_row _ _ _ _ _ q1
        have z7 : wr.cell? ⟨w.heap.size + 1, 7, none⟩ = some (.int .i64 0) := by rw [cell_of_row _ _ _ _ _ _ q1]; rfl
        have y7 : wr.frozen? ⟨w.heap.size + 1, 7, none⟩ = false := frozen_of_row _ _ _ _ _ q1
        have z8 : wr.cell? ⟨w.heap.size + 1, 8, none⟩ = some (.int .i64 0) := by rw [cell_of_row _ _ _ _ _ _ q1]; rfl
        have y8 : wr.frozen? ⟨w.heap.size + 1, 8, none⟩ = false := frozen_of_row _ _ _ _ _ q1
        have HQ1 := hide q1
        have HQ := hide (hq1.trans hq)
        have hg0 : w.heap.size < wr.heap.size := by omega
        have hg1 : w.heap.size + 1 < wr.heap.size := by omega
        clear HI hown hq q0 q1 ho3 hq1
        by_cases e1 : m0 = 1
        · subst e1
          have hgm : putR ⟨1, m1, m2, bl, ys, m5, m6, m7, m8⟩ at_ z = ⟨1, m1, m2, L, ys, at_ + z, m6, m7, m8⟩ := by
            unfold putR
            dsimp only
            rw [if_pos (by omega), ← HLL.out]
          have HGM := hide hgm
          clear hgm
          go_wp2_with fail
          have hrz : ((wr.setCell ⟨w.heap.size, 3, none⟩ (.slice Ao L.length co)).setCell ⟨w.heap.size, 5, none⟩ (.int .i64 (at_ + z))).heap[w.heap.size + 1]? = some (.cells #[.int .i64 0, .int .i64 0, .int .i64 0, .slice none 0 0, .slice none 0 0, .int .i64 0, .int .i64 0, .int .i64 0, .int .i64 0] MT (0, 0)) := by
            rw [heap_setCell_other _ _ _ _ (by simp), heap_setCell_other _ _ _ _ (by simp)]
            exact HQ1.out
          have hg := row9 (w := ((wr.setCell ⟨w.heap.size, 3, none⟩ (.slice Ao L.length co)).setCell ⟨w.heap.size, 5, none⟩ (.int .i64 (at_ + z)))) (b := w.heap.size + 1) (.int .i64 1) (.int .i64 m1) (.int .i64 m2) (.slice Ao L.length co) (.slice B k d) (.int .i64 (at_ + z)) (.int .i64 m6) (.int .i64 m7) (.int .i64 m8) hrz
          have hO := own9 (w := ((wr.setCell ⟨w.heap.size, 3, none⟩ (.slice Ao L.length co)).setCell ⟨w.heap.size, 5, none⟩ (.int .i64 (at_ + z)))) (b := w.heap.size + 1) (.int .i64 1) (.int .i64 m1) (.int .i64 m2) (.slice Ao L.length co) (.slice B k d) (.int .i64 (at_ + z)) (.int .i64 m6) (.int .i64 m7) (.int .i64 m8) (own1 (own1 HOW.out hs0) hs0) hs1
          have hF := q9 (w0 := w) (w := ((wr.setCell ⟨w.heap.size, 3, none⟩ (.slice Ao L.length co)).setCell ⟨w.heap.size, 5, none⟩ (.int .i64 (at_ + z)))) (b := w.heap.size + 1) (.int .i64 1) (.int .i64 m1) (.int .i64 m2) (.slice Ao L.length co) (.slice B k d) (.int .i64 (at_ + z)) (.int .i64 m6) (.int .i64 m7) (.int .i64 m8) ((HQ.out.set (Nat.le_refl _) _).set (Nat.le_refl _) _) (by omega)
          refine bodyPost_ret (v := .agg #[(.int .i64 1), (.int .i64 m1), (.int .i64 m2), (.slice Ao L.length co), (.slice B k d), (.int .i64 (at_ + z)), (.int .i64 m6), (.int .i64 m7), (.int .i64 m8)]) (ret_m1 (p := 6) rfl rfl (by simp) hg) rfl ?_
          refine ⟨⟨Ao, L.length, co, B, k, d, ⟨1, m1, m2, L, ys, (at_ + z), m6, m7, m8⟩⟩, rfl, HGM.out.symm, ⟨Sl.own hO (fun _ => rfl) (by decide), HRM.out.y.up hF, fun h => ?_, HRM.out.yn, TyA.own hO, HRM.out.tb.up hF⟩, rfl, rfl, rfl, own_low hO (by omega), hF⟩
          dsimp only at h
          subst h
          exact own_none hO
        by_cases e2 : m0 = 2
        · subst e2
          have hgm : putR ⟨2, m1, m2, bl, ys, m5, m6, m7, m8⟩ at_ z = ⟨2, m1, m2, L, ys, at_ + z, m6, m7, m8⟩ := by
            unfold putR
            dsimp only
            rw [if_pos (by omega), ← HLL.out]
          have HGM := hide hgm
          clear hgm
          go_wp2_with fail
          have hrz : ((wr.setCell ⟨w.heap.size, 3, none⟩ (.slice Ao L.length co)).setCell ⟨w.heap.size, 5, none⟩ (.int .i64 (at_ + z))).heap[w.heap.size + 1]? = some (.cells #[.int .i64 0, .int .i64 0, .int .i64 0, .slice none 0 0, .slice none 0 0, .int .i64 0, .int .i64 0, .int .i64 0, .int .i64 0] MT (0, 0)) := by
            rw [heap_setCell_other _ _ _ _ (by simp), heap_setCell_other _ _ _ _ (by simp)]
            exact HQ1.out
          have hg := row9 (w := ((wr.setCell ⟨w.heap.size, 3, none⟩ (.slice Ao L.length co)).setCell ⟨w.heap.size, 5, none⟩ (.int .i64 (at_ + z)))) (b := w.heap.size + 1) (.int .i64 2) (.int .i64 m1) (.int .i64 m2) (.slice Ao L.length co) (.slice B k d) (.int .i64 (at_ + z)) (.int .i64 m6) (.int .i64 m7) (.int .i64 m8) hrz
          have hO := own9 (w := ((wr.setCell ⟨w.heap.size, 3, none⟩ (.slice Ao L.length co)).setCell ⟨w.heap.size, 5, none⟩ (.int .i64 (at_ + z)))) (b := w.heap.size + 1) (.int .i64 2) (.int .i64 m1) (.int .i64 m2) (.slice Ao L.length co) (.slice B k d) (.int .i64 (at_ + z)) (.int .i64 m6) (.int .i64 m7) (.int .i64 m8) (own1 (own1 HOW.out hs0) hs0) hs1
          have hF := q9 (w0 := w) (w := ((wr.setCell ⟨w.heap.size, 3, none⟩ (.slice Ao L.length co)).setCell ⟨w.heap.size, 5, none⟩ (.int .i64 (at_ + z)))) (b := w.heap.size + 1) (.int .i64 2) (.int .i64 m1) (.int .i64 m2) (.slice Ao L.length co) (.slice B k d) (.int .i64 (at_ + z)) (.int .i64 m6) (.int .i64 m7) (.int .i64 m8) ((HQ.out.set (Nat.le_refl _) _).set (Nat.le_refl _) _) (by omega)
          refine bodyPost_ret (v := .agg #[(.int .i64 2), (.int .i64 m1), (.int .i64 m2), (.slice Ao L.length co), (.slice B k d), (.int .i64 (at_ + z)), (.int .i64 m6), (.int .i64 m7), (.int .i64 m8)]) (ret_m1 (p := 6) rfl rfl (by simp) hg) rfl ?_
          refine ⟨⟨Ao, L.length, co, B, k, d, ⟨2, m1, m2, L, ys, (at_ + z), m6, m7, m8⟩⟩, rfl, HGM.out.symm, ⟨Sl.own hO (fun _ => rfl) (by decide), HRM.out.y.up hF, fun h => ?_, HRM.out.yn, TyA.own hO, HRM.out.tb.up hF⟩, rfl, rfl, rfl, own_low hO (by omega), hF⟩
          dsimp only at h
          subst h
          exact own_none hO
        have b1 : (m0 == 1) = false := by simpa using e1
        have d1 : decide (m0 = 1) = false := by simpa using e1
        have b2 : (m0 == 2) = false := by simpa using e2
        have d2 : decide (m0 = 2) = false := by simpa using e2
        have hgm : putR ⟨m0, m1, m2, bl, ys, m5, m6, m7, m8⟩ at_ z = ⟨m0, m1, m2, L, ys, m5, m6, m7, m8⟩ := by
          unfold putR
          dsimp only
          rw [if_neg (by omega), ← HLL.out]
        have HGM := hide hgm
        clear hgm
        go_wp2_with fail
        have hrz : (wr.setCell ⟨w.heap.size, 3, none⟩ (.slice Ao L.length co)).heap[w.heap.size + 1]? = some (.cells #[.int .i64 0, .int .i64 0, .int .i64 0, .slice none 0 0, .slice none 0 0, .int .i64 0, .int .i64 0, .int .i64 0, .int .i64 0] MT (0, 0)) := by
          rw [heap_setCell_other _ _ _ _ (by simp)]
          exact HQ1.out
        have hg := row9 (w := (wr.setCell ⟨w.heap.size, 3, none⟩ (.slice Ao L.length co))) (b := w.heap.size + 1) (.int .i64 m0) (.int .i64 m1) (.int .i64 m2) (.slice Ao L.length co) (.slice B k d) (.int .i64 m5) (.int .i64 m6) (.int .i64 m7) (.int .i64 m8) hrz
        have hO := own9 (w := (wr.setCell ⟨w.heap.size, 3, none⟩ (.slice Ao L.length co))) (b := w.heap.size + 1) (.int .i64 m0) (.int .i64 m1) (.int .i64 m2) (.slice Ao L.length co) (.slice B k d) (.int .i64 m5) (.int .i64 m6) (.int .i64 m7) (.int .i64 m8) (own1 HOW.out hs0) hs1
        have hF := q9 (w0 := w) (w := (wr.setCell ⟨w.heap.size, 3, none⟩ (.slice Ao L.length co))) (b := w.heap.size + 1) (.int .i64 m0) (.int .i64 m1) (.int .i64 m2) (.slice Ao L.length co) (.slice B k d) (.int .i64 m5) (.int .i64 m6) (.int .i64 m7) (.int .i64 m8) (HQ.out.set (Nat.le_refl _) _) (by omega)
        refine bodyPost_ret (v := .agg #[(.int .i64 m0), (.int .i64 m1), (.int .i64 m2), (.slice Ao L.length co), (.slice B k d), (.int .i64 m5), (.int .i64 m6), (.int .i64 m7), (.int .i64 m8)]) (ret_m1 (p := 6) rfl rfl (by simp) hg) rfl ?_
        refine ⟨⟨Ao, L.length, co, B, k, d, ⟨m0, m1, m2, L, ys, m5, m6, m7, m8⟩⟩, rfl, HGM.out.symm, ⟨Sl.own hO (fun _ => rfl) (by decide), HRM.out.y.up hF, fun h => ?_, HRM.out.yn, TyA.own hO, HRM.out.tb.up hF⟩, rfl, rfl, rfl, own_low hO (by omega), hF⟩
        dsimp only at h
        subst h
        exact own_none hO
end Go.Proofs.YtegpkcbmgjoicaaGreat

namespace Go.Proofs.YtegpkcbmgjoicaaGreat
open Go.RowKit HP
set_option linter.unusedVariables false
def setN (ys : List Int) (f : Nat) (x : Int) : Nat → List Int
  | 0 => ys
  | j + 1 => (setN ys f x j).set (f + j) x
theorem setN_length (ys : List Int) (f : Nat) (x : Int) : ∀ j, (setN ys f x j).length = ys.length
  | 0 => rfl
  | j + 1 => by rw [setN, List.length_set, setN_length ys f x j]
theorem flat_encN : ∀ xs : List Int, xs.flatMap encN = xs.map (Value.int .i64)
  | [] => rfl
  | x :: xs => by rw [List.flatMap_cons, List.map_cons, flat_encN xs]; rfl
theorem flat_setN (xs : List Int) (j : Nat) (x : Int) : (xs.flatMap encN).set j (.int .i64 x) = (xs.set j x).flatMap encN := by
  rw [flat_encN, flat_encN, List.map_set]
theorem one_encN (xs : List Int) : ∀ u ∈ xs.flatMap encN, u.oneCell' = true := fun u hu => by
  rw [flat_encN] at hu
  obtain ⟨x, -, rfl⟩ := List.mem_map.1 hu
  rfl
def setR (m : RM) (f t : Nat) (x : Int) : RM := { m with ys := setN m.ys f x (t - f) }
set_option maxRecDepth 100000 in
set_option maxHeartbeats 8000000 in
theorem rSet_any (v : RV) (f t : Nat) (x : Int) (w : World) (H : RmR w v) (N : RmN v.m) (hft : f ≤ t) (htk : t ≤ v.k) (hk0 : 0 < v.k) (hk1 : v.k ≤ 4096) : Calls Tryz.prog 56 #[v.val, .int .i64 (f : Int), .int .i64 (t : Int), .int .i64 x] w fun e w' => ∃ v', e = .returned v'.val ∧ v'.m = setR v.m f t x ∧ RmR w' v' ∧ v'.A = v.A ∧ v'.n = v.n ∧ v'.c = v.c ∧ w'.ownsRow w.heap.size 3 1 (.slice v'.B v'.k v'.d) v'.k (v'.m.ys.flatMap encN) ∧ v'.k = v.k ∧ Q w w' := by
  obtain ⟨A, n, c, B, k, d, ⟨m0, m1, m2, bl, ys, m5, m6, m7, m8⟩⟩ := v
  unfold RV.val RV.cells setR
  dsimp only at H N htk hk0 hk1 ⊢
  have hl := H.y.len
  dsimp only at hl
  have HY := hide (show Sl 1 encN w B k d ys from H.y)
  have HYN := hide (show B = none → k = 0 ∧ d = 0 from H.yn)
  have HRM := hide H
  have HL := hide hl
  have hki : (k : Int) ≤ 4096 := by omega
  obtain ⟨w1, hw1⟩ : ∃ w1, (w.alloc (.cells #[.int .i64 m0, .int .i64 m1, .int .i64 m2, .slice A n c, .slice B k d, .int .i64 m5, .int .i64 m6, .int .i64 m7, .int .i64 m8] MT)).alloc (.cells #[.int .i64 0, .int .i64 0, .int .i64 0, .slice none 0 0, .slice none 0 0, .int .i64 0, .int .i64 0, .int .i64 0, .int .i64 0] MT) = w1 := ⟨_, rfl⟩
  have hq1 : Q w w1 := by rw [← hw1]; exact ((Q.refl w).alloc _).alloc _
  have hsw : w1.heap.size = w.heap.size + 2 := by rw [← hw1]; simp
  have hs1 : w.heap.size + 1 < w1.heap.size := by omega
  have hs0 : w.heap.size < w1.heap.size := by omega
  have hr0 : w1.heap[w.heap.size]? = some (.cells #[.int .i64 m0, .int .i64 m1, .int .i64 m2, .slice A n c, .slice B k d, .int .i64 m5, .int .i64 m6, .int .i64 m7, .int .i64 m8] MT (0, 0)) := by
    rw [← hw1, ((Q.refl (w.alloc _)).alloc _).below.block _ (by simp)]
    exact heap_alloc_new w _
  have hr1 : w1.heap[w.heap.size + 1]? = some (.cells #[.int .i64 0, .int .i64 0, .int .i64 0, .slice none 0 0, .slice none 0 0, .int .i64 0, .int .i64 0, .int .i64 0, .int .i64 0] MT (0, 0)) := by
    have h := heap_alloc_new (w.alloc (.cells #[.int .i64 m0, .int .i64 m1, .int .i64 m2, .slice A n c, .slice B k d, .int .i64 m5, .int .i64 m6, .int .i64 m7, .int .i64 m8] MT)) (.cells #[.int .i64 0, .int .i64 0, .int .i64 0, .slice none 0 0, .slice none 0 0, .int .i64 0, .int .i64 0, .int .i64 0, .int .i64 0] MT)
    rw [show (w.alloc (.cells #[.int .i64 m0, .int .i64 m1, .int .i64 m2, .slice A n c, .slice B k d, .int .i64 m5, .int .i64 m6, .int .i64 m7, .int .i64 m8] MT)).heap.size = w.heap.size + 1 by simp, hw1] at h
    exact h
  have hL := own_lit0 w1 (w.heap.size + 2) 3 1 (w.heap.size + 1 + 1) (by omega) (by omega)
  rw [← hw1] at hL
  have HLT := hide hL
  have HW1 := hide hw1
  have HR0 := hide hr0
  have HR1 := hide hr1
  have HQ1 := hide hq1
  have HHL := hide H.y.rd
  clear H N hl hr0 hr1 hL hw1
  go_enter Tryz.func56, Tryz.ntmps56
  go_wp2_with (at_builtin; go_loud (refine wpList_appnew rfl El_int _ _ rfl rfl rfl HLT.out HYN.out ?_ (HY.out.up ((((Q.refl w).alloc _).alloc _).alloc _)).rd (one_encN _) ?_ ?_ ?_; (focus (rw [flatMap_length (k := 1) (fun _ => rfl), HL.out])); (focus omega); (focus (first | omega | (simp; done) | (simp; omega))); intro v5 w5 hv5 hq5; have HV5 := hide hv5; have hq15 : Q w1 w5 := (by rw [← HW1.out]; exact ((Q.refl _).alloc _).trans hq5); have HQ5 := hide hq15; clear hv5 hq5; obtain ⟨g, cg, e5, hgb, hgl, hgn, hgm, hcell, hfz⟩ := own_at HV5.out hk0; subst e5; have HFZ := hide hfz; have q0 := (hq15.below.block _ hs0).trans HR0.out; have k4 : w5.cell? ⟨w.heap.size, 4, none⟩ = some (.slice B k d) := (by rw [cell_of_row _ _ _ _ _ _ q0]; rfl); have f4 : w5.frozen? ⟨w.heap.size, 4, none⟩ = false := frozen_of_row _ _ _ _ _ q0; clear hcell hfz q0 hq15))
  obtain ⟨cs, hgr⟩ := own_blk HV5.out rfl
  have q0 := (HQ5.out.below.block _ hs0).trans HR0.out
  have q1 := (HQ5.out.below.block _ hs1).trans HR1.out
  have hg0 : g ≠ w.heap.size := by omega
  have hg1 : g ≠ w.heap.size + 1 := by omega
  have HOW := hide (own1 (b := w.heap.size) (j := 4) (u := .slice (some ⟨g, 0, none⟩) k cg) HV5.out (by omega))
  have hr0 := heap_setCell_same w5 w.heap.size 4 _ _ (.slice (some ⟨g, 0, none⟩) k cg) q0
  have hr1 : (w5.setCell ⟨w.heap.size, 4, none⟩ (.slice (some ⟨g, 0, none⟩) k cg)).heap[w.heap.size + 1]? = _ := (heap_setCell_other _ _ _ _ (by simp)).trans q1
  have HA0 := hide (show (w5.setCell ⟨w.heap.size, 4, none⟩ (.slice (some ⟨g, 0, none⟩) k cg)).heap[w.heap.size]? = some (.cells #[.int .i64 m0, .int .i64 m1, .int .i64 m2, .slice A n c, .slice (some ⟨g, 0, none⟩) k cg, .int .i64 m5, .int .i64 m6, .int .i64 m7, .int .i64 m8] MT (0, 0)) from hr0)
  have HA1 := hide hr1
  have HQ2 := hide ((HQ1.out.trans HQ5.out).set (p := ⟨w.heap.size, 4, none⟩) (Nat.le_refl _) (.slice (some ⟨g, 0, none⟩) k cg))
  have HZ5 := hide (show w5.heap.size = (w5.setCell ⟨w.heap.size, 4, none⟩ (.slice (some ⟨g, 0, none⟩) k cg)).heap.size by simp [World.setCell])
  clear q0 q1 hr0 hr1 hgr
  have hfi : (f : Int) ≤ (t : Int) := by omega
  have hti : (t : Int) ≤ (k : Int) := by omega
  go_loopw [9] (fun vi wr => ∃ j : Nat, f + j ≤ t ∧ vi = .int .i64 ((f + j : Nat) : Int) ∧ wr.ownsRow (w.heap.size + 2) 3 1 (.slice (some ⟨g, 0, none⟩) k cg) k ((setN ys f x j).flatMap encN) ∧ wr.heap[w.heap.size]? = some (.cells #[.int .i64 m0, .int .i64 m1, .int .i64 m2, .slice A n c, .slice (some ⟨g, 0, none⟩) k cg, .int .i64 m5, .int .i64 m6, .int .i64 m7, .int .i64 m8] MT (0, 0)) ∧ wr.heap[w.heap.size + 1]? = some (.cells #[.int .i64 0, .int .i64 0, .int .i64 0, .slice none 0 0, .slice none 0 0, .int .i64 0, .int .i64 0, .int .i64 0, .int .i64 0] MT (0, 0)) ∧ Q w wr) (fun vi _ => t - (intOf vi).toNat)
  case atStart => exact ⟨0, by omega, by simp, HOW.out, HA0.out, HA1.out, HQ2.out⟩
  case round =>
    obtain ⟨j, hj, rfl, hown, q0, q1, hq⟩ := hrel
    obtain ⟨i, hi⟩ : ∃ i, i = f + j := ⟨_, rfl⟩
    rw [← hi] at hj ⊢
    have HI := hide hi
    clear hi
    have HOWN := hide hown
    have HQ0 := hide q0
    have HQR1 := hide q1
    have HQ := hide hq
    by_cases hlt : i < t
    · have hd1 : decide ((i : Int) < (t : Int)) = true := by simp; omega
      have hd0 : decide (i < t) = true := by simp; omega
      have hlti : (i : Int) < (t : Int) := by omega
      have hik : i < k := by omega
      have hiki : (i : Int) < (k : Int) := by omega
      have hdk : decide (i < k) = true := by simpa using hik
      have k4 : wr.cell? ⟨w.heap.size, 4, none⟩ = some (.slice (some ⟨g, 0, none⟩) k cg) := by rw [cell_of_row _ _ _ _ _ _ q0]; rfl
      obtain ⟨g', cg', e5, hgb', hgl', hgn', hgm', hcell, hfz⟩ := own_at hown hk0
      cases e5
      obtain ⟨y, hy⟩ : ∃ y, ((setN ys f x j).flatMap encN)[i]? = some y := ⟨_, List.getElem?_eq_getElem (by rw [flatMap_length (k := 1) (fun _ => rfl), setN_length, HL.out]; omega)⟩
      have x1 := hcell i y hy
      have x2 := hfz i
      have NXT := hide (own_set hown i (.int .i64 x))
      have hne0 : (w.heap.size : Nat) ≠ g := fun h => hg0 h.symm
      have hne1 : (w.heap.size + 1 : Nat) ≠ g := fun h => hg1 h.symm
      clear hown q0 q1 hq hcell hfz hy
      go_wp2_with fail
      go_roundw
      case rel => exact ⟨j + 1, by have := HI.out; omega, by rw [HI.out]; go_num, by
        have h := NXT.out
        rw [flat_setN] at h
        rw [setN, ← HI.out]
        exact h, (heap_setCell_other _ _ _ _ hne0).trans HQ0.out, (heap_setCell_other _ _ _ _ hne1).trans HQR1.out, HQ.out.set (by dsimp only; omega) _⟩
      case measure => simp [intOf] <;> omega
    · have hd1 : decide ((i : Int) < (t : Int)) = false := by simp; omega
      have hd0 : decide (i < t) = false := by simp; omega
      obtain rfl : i = t := by omega
      have k0 : wr.cell? ⟨w.heap.size, 0, none⟩ = some (.int .i64 m0) := by rw [cell_of_row _ _ _ _ _ _ q0]; rfl
      have k1 : wr.cell? ⟨w.heap.size, 1, none⟩ = some (.int .i64 m1) := by rw [cell_of_row _ _ _ _ _ _ q0]; rfl
      have k2 : wr.cell? ⟨w.heap.size, 2, none⟩ = some (.int .i64 m2) := by rw [cell_of_row _ _ _ _ _ _ q0]; rfl
      have k3 : wr.cell? ⟨w.heap.size, 3, none⟩ = some (.slice A n c) := by rw [cell_of_row _ _ _ _ _ _ q0]; rfl
      have k4 : wr.cell? ⟨w.heap.size, 4, none⟩ = some (.slice (some ⟨g, 0, none⟩) k cg) := by rw [cell_of_row _ _ _ _ _ _ q0]; rfl
      have k5 : wr.cell? ⟨w.heap.size, 5, none⟩ = some (.int .i64 m5) := by rw [cell_of_row _ _ _ _ _ _ q0]; rfl
      have k6 : wr.cell? ⟨w.heap.size, 6, none⟩ = some (.int .i64 m6) := by rw [cell_of_row _ _ _ _ _ _ q0]; rfl
      have k7 : wr.cell? ⟨w.heap.size, 7, none⟩ = some (.int .i64 m7) := by rw [cell_of_row _ _ _ _ _ _ q0]; rfl
      have k8 : wr.cell? ⟨w.heap.size, 8, none⟩ = some (.int .i64 m8) := by rw [cell_of_row _ _ _ _ _ _ q0]; rfl
      have z0 : wr.cell? ⟨w.heap.size + 1, 0, none⟩ = some (.int .i64 0) := by rw [cell_of_row _ _ _ _ _ _ q1]; rfl
      have y0 : wr.frozen? ⟨w.heap.size + 1, 0, none⟩ = false := frozen_of_row _ _ _ _ _ q1
      have z1 : wr.cell? ⟨w.heap.size + 1, 1, none⟩ = some (.int .i64 0) := by rw [cell_of_row _ _ _ _ _ _ q1]; rfl
      have y1 : wr.frozen? ⟨w.heap.size + 1, 1, none⟩ = false := frozen_of_row _ _ _ _ _ q1
      have z2 : wr.cell? ⟨w.heap.size + 1, 2, none⟩ = some (.int .i64 0) := by rw [cell_of_row _ _ _ _ _ _ q1]; rfl
      have y2 : wr.frozen? ⟨w.heap.size + 1, 2, none⟩ = false := frozen_of_row _ _ _ _ _ q1
      have z3 : wr.cell? ⟨w.heap.size + 1, 3, none⟩ = some (.slice none 0 0) := by rw [cell_of_row _ _ _ _ _ _ q1]; rfl
      have y3 : wr.frozen? ⟨w.heap.size + 1, 3, none⟩ = false := frozen_of_row _ _ _ _ _ q1
      have z4 : wr.cell? ⟨w.heap.size + 1, 4, none⟩ = some (.slice none 0 0) := by rw [cell_of_row _ _ _ _ _ _ q1]; rfl
      have y4 : wr.frozen? ⟨w.heap.size + 1, 4, none⟩ = false := frozen_of_row _ _ _ _ _ q1
      have z5 : wr.cell? ⟨w.heap.size + 1, 5, none⟩ = some (.int .i64 0) := by rw [cell_of_row _ _ _ _ _ _ q1]; rfl
      have y5 : wr.frozen? ⟨w.heap.size + 1, 5, none⟩ = false := frozen_of_row _ _ _ _ _ q1
      have z6 : wr.cell? ⟨w.heap.size + 1, 6, none⟩ = some (.int .i64 0) := by rw [cell_of_row _ _ _ _ _ _ q1]; rfl
      have y6 : wr.frozen? ⟨w.heap.size + 1, 6, none⟩ = false := frozen_of_row _ _ _ _ _ q1
      have z7 : wr.cell? ⟨w.heap.size + 1, 7, none⟩ = some (.int .i64 0) := by rw [cell_of_row _ _ _ _ _ _ q1]; rfl
      have y7 : wr.frozen? ⟨w.heap.size + 1, 7, none⟩ = false := frozen_of_row _ _ _ _ _ q1
      have z8 : wr.cell? ⟨w.heap.size + 1, 8, none⟩ = some (.int .i64 0) := by rw [cell_of_row _ _ _ _ _ _ q1]; rfl
      have y8 : wr.frozen? ⟨w.heap.size + 1, 8, none⟩ = false := frozen_of_row _ _ _ _ _ q1
      have hj2 : j = i - f := by have := HI.out; omega
      have HJ2 := hide hj2
      clear hj2 hown q0 q1 hq
      go_wp2_with fail
      have hg := row9 (w := wr) (b := w.heap.size + 1) (.int .i64 m0) (.int .i64 m1) (.int .i64 m2) (.slice A n c) (.slice (some ⟨g, 0, none⟩) k cg) (.int .i64 m5) (.int .i64 m6) (.int .i64 m7) (.int .i64 m8) HQR1.out
      have hO := own9 (w := wr) (b := w.heap.size + 1) (.int .i64 m0) (.int .i64 m1) (.int .i64 m2) (.slice A n c) (.slice (some ⟨g, 0, none⟩) k cg) (.int .i64 m5) (.int .i64 m6) (.int .i64 m7) (.int .i64 m8) HOWN.out (by omega)
      have hF := q9 (w0 := w) (w := wr) (b := w.heap.size + 1) (.int .i64 m0) (.int .i64 m1) (.int .i64 m2) (.slice A n c) (.slice (some ⟨g, 0, none⟩) k cg) (.int .i64 m5) (.int .i64 m6) (.int .i64 m7) (.int .i64 m8) HQ.out (by omega)
      refine bodyPost_ret (v := .agg #[.int .i64 m0, .int .i64 m1, .int .i64 m2, .slice A n c, .slice (some ⟨g, 0, none⟩) k cg, .int .i64 m5, .int .i64 m6, .int .i64 m7, .int .i64 m8]) (ret_m1 (p := 8) rfl rfl (by simp) hg) rfl ?_
      rw [HJ2.out] at hO
      refine ⟨⟨A, n, c, some ⟨g, 0, none⟩, k, cg, ⟨m0, m1, m2, bl, setN ys f x (i - f), m5, m6, m7, m8⟩⟩, rfl, rfl, ⟨HRM.out.b.up hF, Sl.own hO (fun _ => rfl) (by decide), HRM.out.bn, fun h => (by cases h), HRM.out.ta.up hF, TyA.own hO⟩, rfl, rfl, rfl, own_low hO (by omega), rfl, hF⟩
end Go.Proofs.YtegpkcbmgjoicaaGreat

namespace Go.Proofs.YtegpkcbmgjoicaaGreat
open Go.RowKit HP
set_option linter.unusedVariables false
theorem idxI_cases {α : Type} (p : α → Bool) (xs : List α) : idxI p xs = -1 ∨ ∃ (k : Nat) (x : α), idxI p xs = (k : Int) ∧ xs[k]? = some x := by
  unfold idxI
  cases h : xs.findIdx? p with
  | none => exact .inl rfl
  | some k =>
    have := (List.findIdx?_eq_some_iff_getElem.1 h).1
    exact .inr ⟨k, xs[k], rfl, List.getElem?_eq_getElem this⟩
theorem cells9 {W : World} {b : Nat} {v0 v1 v2 v3 v4 v5 v6 v7 v8 : Value} (h : W.heap[b]? = some (.cells #[v0, v1, v2, v3, v4, v5, v6, v7, v8] MT (0, 0))) : W.cell? ⟨b, 0, none⟩ = some v0 ∧ W.cell? ⟨b, 1, none⟩ = some v1 ∧ W.cell? ⟨b, 2, none⟩ = some v2 ∧ W.cell? ⟨b, 3, none⟩ = some v3 ∧ W.cell? ⟨b, 4, none⟩ = some v4 ∧ W.cell? ⟨b, 5, none⟩ = some v5 ∧ W.cell? ⟨b, 6, none⟩ = some v6 ∧ W.cell? ⟨b, 7, none⟩ = some v7 ∧ W.cell? ⟨b, 8, none⟩ = some v8 :=
  ⟨(cell_of_row _ _ _ _ _ _ h).trans rfl, (cell_of_row _ _ _ _ _ _ h).trans rfl, (cell_of_row _ _ _ _ _ _ h).trans rfl, (cell_of_row _ _ _ _ _ _ h).trans rfl, (cell_of_row _ _ _ _ _ _ h).trans rfl, (cell_of_row _ _ _ _ _ _ h).trans rfl, (cell_of_row _ _ _ _ _ _ h).trans rfl, (cell_of_row _ _ _ _ _ _ h).trans rfl, (cell_of_row _ _ _ _ _ _ h).trans rfl⟩
theorem free9 {W : World} {b : Nat} {cs : Array Value} (h : W.heap[b]? = some (.cells cs MT (0, 0))) : W.frozen? ⟨b, 0, none⟩ = false ∧ W.frozen? ⟨b, 1, none⟩ = false ∧ W.frozen? ⟨b, 2, none⟩ = false ∧ W.frozen? ⟨b, 3, none⟩ = false ∧ W.frozen? ⟨b, 4, none⟩ = false ∧ W.frozen? ⟨b, 5, none⟩ = false ∧ W.frozen? ⟨b, 6, none⟩ = false ∧ W.frozen? ⟨b, 7, none⟩ = false ∧ W.frozen? ⟨b, 8, none⟩ = false :=
  ⟨frozen_of_row _ _ _ _ _ h, frozen_of_row _ _ _ _ _ h, frozen_of_row _ _ _ _ _ h, frozen_of_row _ _ _ _ _ h, frozen_of_row _ _ _ _ _ h, frozen_of_row _ _ _ _ _ h, frozen_of_row _ _ _ _ _ h, frozen_of_row _ _ _ _ _ h, frozen_of_row _ _ _ _ _ h⟩
/-- a slice is what it was, or a row made since -/
def FrA {α : Type} (N : Nat) (A A' : Option Addr) (xs xs' : List α) : Prop := (A' = A ∧ xs' = xs) ∨ ∀ g o, A' = some ⟨g, o, none⟩ → N ≤ g
def Fr (N : Nat) (v v' : RV) : Prop := FrA N v.A v'.A v.m.bl v'.m.bl ∧ FrA N v.B v'.B v.m.ys v'.m.ys
theorem FrA.trans {α : Type} {N M : Nat} {A A' A2 : Option Addr} {xs xs' xs2 : List α} (h : FrA N A A' xs xs') (k : FrA M A' A2 xs' xs2) (hNM : N ≤ M) : FrA N A A2 xs xs2 := by
  rcases k with ⟨rfl, rfl⟩ | k
  · exact h
  · exact .inr fun g o e => Nat.le_trans hNM (k g o e)
theorem Fr.refl (N : Nat) (v : RV) : Fr N v v := ⟨.inl ⟨rfl, rfl⟩, .inl ⟨rfl, rfl⟩⟩
theorem Fr.trans {N M : Nat} {v v1 v2 : RV} (h : Fr N v v1) (k : Fr M v1 v2) (hNM : N ≤ M) : Fr N v v2 := ⟨h.1.trans k.1 hNM, h.2.trans k.2 hNM⟩
theorem FrA.keep {α : Type} {k : Nat} {enc : α → List Value} {w W W' : World} {A A' : Option Addr} {n c n' c' N b : Nat} {xs xs' : List α} (h0 : Sl k enc w A n c xs) (h : Sl k enc W A' n' c' xs') (hF : FrA N A A' xs xs') (hb1 : w.heap.size ≤ b) (hb2 : b < N) (hk : ∀ g, g < W.heap.size → g ≠ b → W'.heap[g]? = W.heap[g]?) (hs : W.heap.size ≤ W'.heap.size) : Sl k enc W' A' n' c' xs' := by
  refine ⟨?_, h.len, h.cap, h.most⟩
  rcases h.rd with e | ⟨g, o, e1, e2, e3⟩
  · exact .inl e
  · have hne : xs'.flatMap enc = [] ∨ g ≠ b := by
      rcases hF with ⟨eA, ex⟩ | hF
      · rw [eA] at e1
        rw [ex]
        rcases h0.rd with e | ⟨g', o', f1, f2, -⟩
        · exact .inl e
        · rw [f1] at e1
          cases e1
          exact .inr (by omega)
      · have := hF g o e1
        exact .inr (by omega)
    rcases hne with e | hne
    · exact .inl e
    · refine .inr ⟨g, o, e1, by omega, fun j u hu => ?_⟩
      have := e3 j u hu
      unfold World.cell? at this ⊢
      dsimp only at this ⊢
      rw [hk g e2 hne]
      exact this
theorem FrA.keepT {α : Type} {t : TypeId} {w W W' : World} {A A' : Option Addr} {N b : Nat} {xs xs' : List α} (hF : FrA N A A' xs xs') (h0 : TyA t w A) (h : TyA t W A') (hb1 : w.heap.size ≤ b) (hb2 : b < N) (hk : ∀ g, g < W.heap.size → g ≠ b → W'.heap[g]? = W.heap[g]?) : TyA t W' A' := fun g o e => by
  obtain ⟨cs, hc⟩ := h g o e
  have hne : g ≠ b := by
    rcases hF with ⟨eA, -⟩ | hF
    · rw [eA] at e
      obtain ⟨cs', hc'⟩ := h0 g o e
      have := blk_lt hc'
      omega
    · have := hF g o e
      omega
  exact ⟨cs, (hk g (blk_lt hc) hne).trans hc⟩
theorem RmR.keep {w W W' : World} {v v' : RV} {N b : Nat} (h0 : RmR w v) (h : RmR W v') (hF : Fr N v v') (hb1 : w.heap.size ≤ b) (hb2 : b < N) (hk : ∀ g, g < W.heap.size → g ≠ b → W'.heap[g]? = W.heap[g]?) (hs : W.heap.size ≤ W'.heap.size) : RmR W' v' :=
  ⟨hF.1.keep h0.b h.b hb1 hb2 hk hs, hF.2.keep h0.y h.y hb1 hb2 hk hs, h.bn, h.yn, hF.1.keepT h0.ta h.ta hb1 hb2 hk, hF.2.keepT h0.tb h.tb hb1 hb2 hk⟩
theorem keep9 (W : World) (b : Nat) (v0 v1 v2 v3 v4 v5 v6 v7 v8 : Value) : ∀ g, g ≠ b → (((((((((W.setCell ⟨b, 0, none⟩ v0).setCell ⟨b, 1, none⟩ v1).setCell ⟨b, 2, none⟩ v2).setCell ⟨b, 3, none⟩ v3).setCell ⟨b, 4, none⟩ v4).setCell ⟨b, 5, none⟩ v5).setCell ⟨b, 6, none⟩ v6).setCell ⟨b, 7, none⟩ v7).setCell ⟨b, 8, none⟩ v8).heap[g]? = W.heap[g]? := fun g hg => by rw [heap_setCell_other _ _ _ _ hg, heap_setCell_other _ _ _ _ hg, heap_setCell_other _ _ _ _ hg, heap_setCell_other _ _ _ _ hg, heap_setCell_other _ _ _ _ hg, heap_setCell_other _ _ _ _ hg, heap_setCell_other _ _ _ _ hg, heap_setCell_other _ _ _ _ hg, heap_setCell_other _ _ _ _ hg]
theorem fr_own {α : Type} {W : World} {N e s n m c : Nat} {A A' : Option Addr} {xs xs' : List α} {vs : List Value} (h : W.ownsRow N e s (.slice A' n c) m vs) : FrA N A A' xs xs' := by
  refine .inr fun g o e => ?_
  subst e
  rcases h.2 with ⟨h1, -⟩ | ⟨g', cap, cur, h1, hb, -⟩
  · cases h1
  · cases h1
    exact hb
def freeMR (m : RM) (at_ : Int) : RM × Int :=
  if idxI (fun p => p.1 == at_) m.bl < 0 then (m, 9) else (goneR m (idxI (fun p => p.1 == at_) m.bl).toNat (m.bl[(idxI (fun p => p.1 == at_) m.bl).toNat]?.getD (0, 0)).1, 0)
set_option maxRecDepth 100000 in
set_option maxHeartbeats 8000000 in
theorem rFree_any (v : RV) (at_ : Int) (w : World) (H : RmR w v) (N : RmN v.m) : Calls Tryz.prog 24 #[v.val, .int .i64 at_] w fun e w' => ∃ v', e = .returned (.tuple #[v'.val, .int .i64 (freeMR v.m at_).2]) ∧ v'.m = (freeMR v.m at_).1 ∧ RmR w' v' ∧ Fr w.heap.size v v' ∧ Q w w' := by
  have HB := hide fun (W : World) (h : Q w W) => begins_any v at_ W (H.up h) N
  have HG := hide fun (W : World) (h : Q w W) (j : Nat) (x y : Int) (hj : v.m.bl[j]? = some (x, y)) => rGone_any v j x y W (H.up h) N hj
  have HRM := hide H
  have hnl := N.n
  have hic := idxI_cases (fun p : Int × Int => p.1 == at_) v.m.bl
  unfold freeMR
  obtain ⟨q, hq⟩ : ∃ q, q = idxI (fun p : Int × Int => p.1 == at_) v.m.bl := ⟨_, rfl⟩
  rw [← hq] at HB hic ⊢
  clear hq H N
  unfold RV.val RV.cells at HB HG
  obtain ⟨A, n, c, B, k, d, ⟨m0, m1, m2, bl, ys, m5, m6, m7, m8⟩⟩ := v
  unfold RV.val RV.cells
  dsimp only at HB HG hic hnl ⊢
  obtain ⟨w1, hw1⟩ : ∃ w1, (w.alloc (.cells #[.int .i64 m0, .int .i64 m1, .int .i64 m2, .slice A n c, .slice B k d, .int .i64 m5, .int .i64 m6, .int .i64 m7, .int .i64 m8] MT)).alloc (.cells #[.int .i64 0, .int .i64 0, .int .i64 0, .slice none 0 0, .slice none 0 0, .int .i64 0, .int .i64 0, .int .i64 0, .int .i64 0] MT) = w1 := ⟨_, rfl⟩
  have hq1 : Q w w1 := by rw [← hw1]; exact ((Q.refl w).alloc _).alloc _
  have hs1 : w.heap.size + 1 < w1.heap.size := by rw [← hw1]; simp
  have hs0 : w.heap.size < w1.heap.size := by omega
  have q0 : w1.heap[w.heap.size]? = some (.cells #[.int .i64 m0, .int .i64 m1, .int .i64 m2, .slice A n c, .slice B k d, .int .i64 m5, .int .i64 m6, .int .i64 m7, .int .i64 m8] MT (0, 0)) := by
    rw [← hw1, ((Q.refl (w.alloc _)).alloc _).below.block _ (by simp)]
    exact heap_alloc_new w _
  have q1 : w1.heap[w.heap.size + 1]? = some (.cells #[.int .i64 0, .int .i64 0, .int .i64 0, .slice none 0 0, .slice none 0 0, .int .i64 0, .int .i64 0, .int .i64 0, .int .i64 0] MT (0, 0)) := by
    have h := heap_alloc_new (w.alloc (.cells #[.int .i64 m0, .int .i64 m1, .int .i64 m2, .slice A n c, .slice B k d, .int .i64 m5, .int .i64 m6, .int .i64 m7, .int .i64 m8] MT)) (.cells #[.int .i64 0, .int .i64 0, .int .i64 0, .slice none 0 0, .slice none 0 0, .int .i64 0, .int .i64 0, .int .i64 0, .int .i64 0] MT)
    rw [show (w.alloc (.cells #[.int .i64 m0, .int .i64 m1, .int .i64 m2, .slice A n c, .slice B k d, .int .i64 m5, .int .i64 m6, .int .i64 m7, .int .i64 m8] MT)).heap.size = w.heap.size + 1 by simp, hw1] at h
    exact h
  have HW1 := hide hw1
  have HR0 := hide q0
  have HR1 := hide q1
  have HBW := hide (HB.out w1 hq1)
  clear q0 q1 hw1 HB
  go_enter Tryz.func24, Tryz.ntmps24
  rcases hic with rfl | ⟨j, ⟨x, y⟩, rfl, hx⟩
  · rw [if_pos (by omega)]
    go_wp2_with fail
    rw [HW1.out]
    refine HBW.out.mono ?_
    rintro e w2 ⟨rfl, hq2⟩
    have q0 := (hq2.below.block _ hs0).trans HR0.out
    have q1 := (hq2.below.block _ hs1).trans HR1.out
    have k0 : w2.cell? ⟨w.heap.size, 0, none⟩ = some (.int .i64 m0) := by rw [cell_of_row _ _ _ _ _ _ q0]; rfl
    have k1 : w2.cell? ⟨w.heap.size, 1, none⟩ = some (.int .i64 m1) := by rw [cell_of_row _ _ _ _ _ _ q0]; rfl
    have k2 : w2.cell? ⟨w.heap.size, 2, none⟩ = some (.int .i64 m2) := by rw [cell_of_row _ _ _ _ _ _ q0]; rfl
    have k3 : w2.cell? ⟨w.heap.size, 3, none⟩ = some (.slice A n c) := by rw [cell_of_row _ _ _ _ _ _ q0]; rfl
    have k4 : w2.cell? ⟨w.heap.size, 4, none⟩ = some (.slice B k d) := by rw [cell_of_row _ _ _ _ _ _ q0]; rfl
    have k5 : w2.cell? ⟨w.heap.size, 5, none⟩ = some (.int .i64 m5) := by rw [cell_of_row _ _ _ _ _ _ q0]; rfl
    have k6 : w2.cell? ⟨w.heap.size, 6, none⟩ = some (.int .i64 m6) := by rw [cell_of_row _ _ _ _ _ _ q0]; rfl
    have k7 : w2.cell? ⟨w.heap.size, 7, none⟩ = some (.int .i64 m7) := by rw [cell_of_row _ _ _ _ _ _ q0]; rfl
    have k8 : w2.cell? ⟨w.heap.size, 8, none⟩ = some (.int .i64 m8) := by rw [cell_of_row _ _ _ _ _ _ q0]; rfl
    have z0 : w2.cell? ⟨w.heap.size + 1, 0, none⟩ = some (.int .i64 0) := by rw [cell_of_row _ _ _ _ _ _ q1]; rfl
    have y0 : w2.frozen? ⟨w.heap.size + 1, 0, none⟩ = false := frozen_of_row _ _ _ _ _ q1
    have z1 : w2.cell? ⟨w.heap.size + 1, 1, none⟩ = some (.int .i64 0) := by rw [cell_of_row _ _ _ _ _ _ q1]; rfl
    have y1 : w2.frozen? ⟨w.heap.size + 1, 1, none⟩ = false := frozen_of_row _ _ _ _ _ q1
    have z2 : w2.cell? ⟨w.heap.size + 1, 2, none⟩ = some (.int .i64 0) := by rw [cell_of_row _ _ _ _ _ _ q1]; rfl
    have y2 : w2.frozen? ⟨w.heap.size + 1, 2, none⟩ = false := frozen_of_row _ _ _ _ _ q1
    have z3 : w2.cell? ⟨w.heap.size + 1, 3, none⟩ = some (.slice none 0 0) := by rw [cell_of_row _ _ _ _ _ _ q1]; rfl
    have y3 : w2.frozen? ⟨w.heap.size + 1, 3, none⟩ = false := frozen_of_row _ _ _ _ _ q1
    have z4 : w2.cell? ⟨w.heap.size + 1, 4, none⟩ = some (.slice none 0 0) := by rw [cell_of_row _ _ _ _ _ _ q1]; rfl
    have y4 : w2.frozen? ⟨w.heap.size + 1, 4, none⟩ = false := frozen_of_row _ _ _ _ _ q1
    have z5 : w2.cell? ⟨w.heap.size + 1, 5, none⟩ = some (.int .i64 0) := by rw [cell_of_row _ _ _ _ _ _ q1]; rfl
    have y5 : w2.frozen? ⟨w.heap.size + 1, 5, none⟩ = false := frozen_of_row _ _ _ _ _ q1
    have z6 : w2.cell? ⟨w.heap.size + 1, 6, none⟩ = some (.int .i64 0) := by rw [cell_of_row _ _ _ _ _ _ q1]; rfl
    have y6 : w2.frozen? ⟨w.heap.size + 1, 6, none⟩ = false := frozen_of_row _ _ _ _ _ q1
    have z7 : w2.cell? ⟨w.heap.size + 1, 7, none⟩ = some (.int .i64 0) := by rw [cell_of_row _ _ _ _ _ _ q1]; rfl
    have y7 : w2.frozen? ⟨w.heap.size + 1, 7, none⟩ = false := frozen_of_row _ _ _ _ _ q1
    have z8 : w2.cell? ⟨w.heap.size + 1, 8, none⟩ = some (.int .i64 0) := by rw [cell_of_row _ _ _ _ _ _ q1]; rfl
    have y8 : w2.frozen? ⟨w.heap.size + 1, 8, none⟩ = false := frozen_of_row _ _ _ _ _ q1
    have HQ1 := hide q1
    have HQ := hide (hq1.trans hq2)
    have hs2 := hq2.size
    have hg0 : w.heap.size < w2.heap.size := by omega
    have hg1 : w.heap.size + 1 < w2.heap.size := by omega
    clear q0 q1 hq2
    go_wp2_with fail
    have hg := row9 (w := w2) (b := w.heap.size + 1) (.int .i64 m0) (.int .i64 m1) (.int .i64 m2) (.slice A n c) (.slice B k d) (.int .i64 m5) (.int .i64 m6) (.int .i64 m7) (.int .i64 m8) HQ1.out
    have hF := q9 (w0 := w) (w := w2) (b := w.heap.size + 1) (.int .i64 m0) (.int .i64 m1) (.int .i64 m2) (.slice A n c) (.slice B k d) (.int .i64 m5) (.int .i64 m6) (.int .i64 m7) (.int .i64 m8) HQ.out (by omega)
    refine bodyPost_ret (v := .tuple #[.agg #[.int .i64 m0, .int .i64 m1, .int .i64 m2, .slice A n c, .slice B k d, .int .i64 m5, .int .i64 m6, .int .i64 m7, .int .i64 m8], .int .i64 9]) (ret_m2 (p := 4) (u := 5) rfl rfl (by simp) (by simp) hg) rfl ?_
    exact ⟨⟨A, n, c, B, k, d, ⟨m0, m1, m2, bl, ys, m5, m6, m7, m8⟩⟩, rfl, rfl, HRM.out.up hF, Fr.refl _ _, hF⟩
  · have hjl := (List.getElem?_eq_some_iff.1 hx).1
    have hj100 : (j : Int) ≤ 100 := by omega
    have hneg : decide ((j : Int) < 0) = false := by simp
    rw [if_neg (by omega), Int.toNat_natCast, hx]
    have HX := hide hx
    dsimp only [Option.getD_some]
    obtain ⟨GM, hGM⟩ : ∃ GM, GM = goneR ⟨m0, m1, m2, bl, ys, m5, m6, m7, m8⟩ j x := ⟨_, rfl⟩
    have HGM := hide hGM
    rw [← hGM]
    clear hx hGM
    go_wp2_with fail
    rw [HW1.out]
    refine HBW.out.mono ?_
    rintro e w2 ⟨rfl, hq2⟩
    have q0 := (hq2.below.block _ hs0).trans HR0.out
    have q1 := (hq2.below.block _ hs1).trans HR1.out
    have k0 : w2.cell? ⟨w.heap.size, 0, none⟩ = some (.int .i64 m0) := by rw [cell_of_row _ _ _ _ _ _ q0]; rfl
    have k1 : w2.cell? ⟨w.heap.size, 1, none⟩ = some (.int .i64 m1) := by rw [cell_of_row _ _ _ _ _ _ q0]; rfl
    have k2 : w2.cell? ⟨w.heap.size, 2, none⟩ = some (.int .i64 m2) := by rw [cell_of_row _ _ _ _ _ _ q0]; rfl
    have k3 : w2.cell? ⟨w.heap.size, 3, none⟩ = some (.slice A n c) := by rw [cell_of_row _ _ _ _ _ _ q0]; rfl
    have k4 : w2.cell? ⟨w.heap.size, 4, none⟩ = some (.slice B k d) := by rw [cell_of_row _ _ _ _ _ _ q0]; rfl
    have k5 : w2.cell? ⟨w.heap.size, 5, none⟩ = some (.int .i64 m5) := by rw [cell_of_row _ _ _ _ _ _ q0]; rfl
    have k6 : w2.cell? ⟨w.heap.size, 6, none⟩ = some (.int .i64 m6) := by rw [cell_of_row _ _ _ _ _ _ q0]; rfl
    have k7 : w2.cell? ⟨w.heap.size, 7, none⟩ = some (.int .i64 m7) := by rw [cell_of_row _ _ _ _ _ _ q0]; rfl
    have k8 : w2.cell? ⟨w.heap.size, 8, none⟩ = some (.int .i64 m8) := by rw [cell_of_row _ _ _ _ _ _ q0]; rfl
    have z0 : w2.cell? ⟨w.heap.size + 1, 0, none⟩ = some (.int .i64 0) := by rw [cell_of_row _ _ _ _ _ _ q1]; rfl
    have y0 : w2.frozen? ⟨w.heap.size + 1, 0, none⟩ = false := frozen_of_row _ _ _ _ _ q1
    have z1 : w2.cell? ⟨w.heap.size + 1, 1, none⟩ = some (.int .i64 0) := by rw [cell_of_row _ _ _ _ _ _ q1]; rfl
    have y1 : w2.frozen? ⟨w.heap.size + 1, 1, none⟩ = false := frozen_of_row _ _ _ _ _ q1
    have z2 : w2.cell? ⟨w.heap.size + 1, 2, none⟩ = some (.int .i64 0) := by rw [cell_of_row _ _ _ _ _ _ q1]; rfl
    have y2 : w2.frozen? ⟨w.heap.size + 1, 2, none⟩ = false := frozen_of_row _ _ _ _ _ q1
    have z3 : w2.cell? ⟨w.heap.size + 1, 3, none⟩ = some (.slice none 0 0) := by rw [cell_of_row _ _ _ _ _ _ q1]; rfl
    have y3 : w2.frozen? ⟨w.heap.size + 1, 3, none⟩ = false := frozen_of_row _ _ _ _ _ q1
    have z4 : w2.cell? ⟨w.heap.size + 1, 4, none⟩ = some (.slice none 0 0) := by rw [cell_of_row _ _ _ _ _ _ q1]; rfl
    have y4 : w2.frozen? ⟨w.heap.size + 1, 4, none⟩ = false := frozen_of_row _ _ _ _ _ q1
    have z5 : w2.cell? ⟨w.heap.size + 1, 5, none⟩ = some (.int .i64 0) := by rw [cell_of_row _ _ _ _ _ _ q1]; rfl
    have y5 : w2.frozen? ⟨w.heap.size + 1, 5, none⟩ = false := frozen_of_row _ _ _ _ _ q1
    have z6 : w2.cell? ⟨w.heap.size + 1, 6, none⟩ = some (.int .i64 0) := by rw [cell_of_row _ _ _ _ _ _ q1]; rfl
    have y6 : w2.frozen? ⟨w.heap.size + 1, 6, none⟩ = false := frozen_of_row _ _ _ _ _ q1
    have z7 : w2.cell? ⟨w.heap.size + 1, 7, none⟩ = some (.int .i64 0) := by rw [cell_of_row _ _ _ _ _ _ q1]; rfl
    have y7 : w2.frozen? ⟨w.heap.size + 1, 7, none⟩ = false := frozen_of_row _ _ _ _ _ q1
    have z8 : w2.cell? ⟨w.heap.size + 1, 8, none⟩ = some (.int .i64 0) := by rw [cell_of_row _ _ _ _ _ _ q1]; rfl
    have y8 : w2.frozen? ⟨w.heap.size + 1, 8, none⟩ = false := frozen_of_row _ _ _ _ _ q1
    have HQ1 := hide q1
    have HQ := hide (hq1.trans hq2)
    have hs2 := hq2.size
    have hg0 : w.heap.size < w2.heap.size := by omega
    have hg1 : w.heap.size + 1 < w2.heap.size := by omega
    clear q0 q1 hq2
    have hs12 : w.heap.size + 1 < w2.heap.size := by omega
    go_wp2_with fail
    refine (HG.out w2 HQ.out j x y HX.out).mono ?_
    rintro e w3 ⟨⟨A', n', c', B', k', d', ⟨r0, r1, r2, rb, ry, r5, r6, r7, r8⟩⟩, rfl, hm, hR, hB, hk, hd, hO, hq3⟩
    dsimp only [RV.val, RV.cells] at hm hB hk hd hO ⊢
    have hys : ry = ys := congrArg RM.ys hm
    have HB2 := hide hB
    have HK2 := hide hk
    have HD2 := hide hd
    have HO2 := hide hO
    have HYS := hide hys
    have q1 := (hq3.below.block _ hs12).trans HQ1.out
    have HQ3 := hide (HQ.out.trans hq3)
    have HQ31 := hide q1
    have HM := hide (hm.trans HGM.out.symm)
    have HR := hide hR
    have hs3 := hq3.size
    have z0 : w3.cell? ⟨w.heap.size + 1, 0, none⟩ = some (.int .i64 0) := by rw [cell_of_row _ _ _ _ _ _ q1]; rfl
    have y0 : w3.frozen? ⟨w.heap.size + 1, 0, none⟩ = false := frozen_of_row _ _ _ _ _ q1
    have z1 : w3.cell? ⟨w.heap.size + 1, 1, none⟩ = some (.int .i64 0) := by rw [cell_of_row _ _ _ _ _ _ q1]; rfl
    have y1 : w3.frozen? ⟨w.heap.size + 1, 1, none⟩ = false := frozen_of_row _ _ _ _ _ q1
    have z2 : w3.cell? ⟨w.heap.size + 1, 2, none⟩ = some (.int .i64 0) := by rw [cell_of_row _ _ _ _ _ _ q1]; rfl
    have y2 : w3.frozen? ⟨w.heap.size + 1, 2, none⟩ = false := frozen_of_row _ _ _ _ _ q1
    have z3 : w3.cell? ⟨w.heap.size + 1, 3, none⟩ = some (.slice none 0 0) := by rw [cell_of_row _ _ _ _ _ _ q1]; rfl
    have y3 : w3.frozen? ⟨w.heap.size + 1, 3, none⟩ = false := frozen_of_row _ _ _ _ _ q1
    have z4 : w3.cell? ⟨w.heap.size + 1, 4, none⟩ = some (.slice none 0 0) := by rw [cell_of_row _ _ _ _ _ _ q1]; rfl
    have y4 : w3.frozen? ⟨w.heap.size + 1, 4, none⟩ = false := frozen_of_row _ _ _ _ _ q1
    have z5 : w3.cell? ⟨w.heap.size + 1, 5, none⟩ = some (.int .i64 0) := by rw [cell_of_row _ _ _ _ _ _ q1]; rfl
    have y5 : w3.frozen? ⟨w.heap.size + 1, 5, none⟩ = false := frozen_of_row _ _ _ _ _ q1
    have z6 : w3.cell? ⟨w.heap.size + 1, 6, none⟩ = some (.int .i64 0) := by rw [cell_of_row _ _ _ _ _ _ q1]; rfl
    have y6 : w3.frozen? ⟨w.heap.size + 1, 6, none⟩ = false := frozen_of_row _ _ _ _ _ q1
    have z7 : w3.cell? ⟨w.heap.size + 1, 7, none⟩ = some (.int .i64 0) := by rw [cell_of_row _ _ _ _ _ _ q1]; rfl
    have y7 : w3.frozen? ⟨w.heap.size + 1, 7, none⟩ = false := frozen_of_row _ _ _ _ _ q1
    have z8 : w3.cell? ⟨w.heap.size + 1, 8, none⟩ = some (.int .i64 0) := by rw [cell_of_row _ _ _ _ _ _ q1]; rfl
    have y8 : w3.frozen? ⟨w.heap.size + 1, 8, none⟩ = false := frozen_of_row _ _ _ _ _ q1
    clear q1 hq3 hm hR hB hk hd hO hys
    go_wp2_with fail
    have hg := row9 (w := w3) (b := w.heap.size + 1) (.int .i64 r0) (.int .i64 r1) (.int .i64 r2) (.slice A' n' c') (.slice B' k' d') (.int .i64 r5) (.int .i64 r6) (.int .i64 r7) (.int .i64 r8) HQ31.out
    have hF := q9 (w0 := w) (w := w3) (b := w.heap.size + 1) (.int .i64 r0) (.int .i64 r1) (.int .i64 r2) (.slice A' n' c') (.slice B' k' d') (.int .i64 r5) (.int .i64 r6) (.int .i64 r7) (.int .i64 r8) HQ3.out (by omega)
    refine bodyPost_ret (v := .tuple #[.agg #[.int .i64 r0, .int .i64 r1, .int .i64 r2, .slice A' n' c', .slice B' k' d', .int .i64 r5, .int .i64 r6, .int .i64 r7, .int .i64 r8], .int .i64 0]) (ret_m2 (p := 4) (u := 5) rfl rfl (by simp) (by simp) hg) rfl ?_
    have hO := own9 (w := w3) (b := w.heap.size + 1) (.int .i64 r0) (.int .i64 r1) (.int .i64 r2) (.slice A' n' c') (.slice B' k' d') (.int .i64 r5) (.int .i64 r6) (.int .i64 r7) (.int .i64 r8) HO2.out hs12
    have hb := Sl.own (enc := encP) hO (fun _ => rfl) (by decide)
    have hyn : B' = none → k' = 0 ∧ d' = 0 := by
      rw [HB2.out, HK2.out, HD2.out]
      exact HRM.out.yn
    have hyo : Sl 1 encN w B' k' d' ry := by
      rw [HYS.out, HB2.out, HK2.out, HD2.out]
      exact HRM.out.y
    have hbn : A' = none → n' = 0 ∧ c' = 0 := fun h => by
      have h2 := HO2.out
      rw [h] at h2
      exact own_none h2
    have hfr : Fr w.heap.size ⟨A, n, c, B, k, d, ⟨m0, m1, m2, bl, ys, m5, m6, m7, m8⟩⟩ ⟨A', n', c', B', k', d', ⟨r0, r1, r2, rb, ry, r5, r6, r7, r8⟩⟩ := ⟨fr_own (own_low HO2.out (by omega)), .inl ⟨HB2.out, HYS.out⟩⟩
    exact ⟨⟨A', n', c', B', k', d', ⟨r0, r1, r2, rb, ry, r5, r6, r7, r8⟩⟩, rfl, HM.out, ⟨hb, hyo.up hF, hbn, hyn, TyA.own hO, (show TyA 3 w B' by rw [HB2.out]; exact HRM.out.tb).up hF⟩, hfr, hF⟩
end Go.Proofs.YtegpkcbmgjoicaaGreat

namespace Go.Proofs.YtegpkcbmgjoicaaGreat
open Go.RowKit HP
set_option linter.unusedVariables false
def peakR (m : RM) : RM := { m with peak := max m.peak (sumS m.bl) }
set_option maxRecDepth 100000 in
set_option maxHeartbeats 8000000 in
theorem rPeaked_any (v : RV) (w : World) (H : RmR w v) (N : RmN v.m) : Calls Tryz.prog 55 #[v.val] w fun e w' => e = .returned (v.withM (peakR v.m)).val ∧ Q w w' := by
  have HU := hide fun (W : World) (h : Q w W) => rUsed_any v W (H.up h) N
  unfold peakR
  obtain ⟨u, hu⟩ : ∃ u, u = sumS v.m.bl := ⟨_, rfl⟩
  rw [← hu] at HU ⊢
  clear hu H N
  unfold RV.withM RV.val RV.cells
  unfold RV.val RV.cells at HU
  obtain ⟨A0, n, c, B, k, d, ⟨m0, m1, m2, bl, ys, m5, m6, m7, m8⟩⟩ := v
  dsimp only at HU ⊢
  obtain ⟨w1, hw1⟩ : ∃ w1, (w.alloc (.cells #[.int .i64 m0, .int .i64 m1, .int .i64 m2, .slice A0 n c, .slice B k d, .int .i64 m5, .int .i64 m6, .int .i64 m7, .int .i64 m8] MT)).alloc (.cells #[.int .i64 0, .int .i64 0, .int .i64 0, .slice none 0 0, .slice none 0 0, .int .i64 0, .int .i64 0, .int .i64 0, .int .i64 0] MT) = w1 := ⟨_, rfl⟩
  have hq1 : Q w w1 := by rw [← hw1]; exact ((Q.refl w).alloc _).alloc _
  have hs1 : w.heap.size + 1 < w1.heap.size := by rw [← hw1]; simp
  have hs0 : w.heap.size < w1.heap.size := by omega
  have q0 : w1.heap[w.heap.size]? = some (.cells #[.int .i64 m0, .int .i64 m1, .int .i64 m2, .slice A0 n c, .slice B k d, .int .i64 m5, .int .i64 m6, .int .i64 m7, .int .i64 m8] MT (0, 0)) := by
    rw [← hw1, ((Q.refl (w.alloc _)).alloc _).below.block _ (by simp)]
    exact heap_alloc_new w _
  have q1 : w1.heap[w.heap.size + 1]? = some (.cells #[.int .i64 0, .int .i64 0, .int .i64 0, .slice none 0 0, .slice none 0 0, .int .i64 0, .int .i64 0, .int .i64 0, .int .i64 0] MT (0, 0)) := by
    have h := heap_alloc_new (w.alloc (.cells #[.int .i64 m0, .int .i64 m1, .int .i64 m2, .slice A0 n c, .slice B k d, .int .i64 m5, .int .i64 m6, .int .i64 m7, .int .i64 m8] MT)) (.cells #[.int .i64 0, .int .i64 0, .int .i64 0, .slice none 0 0, .slice none 0 0, .int .i64 0, .int .i64 0, .int .i64 0, .int .i64 0] MT)
    rw [show (w.alloc (.cells #[.int .i64 m0, .int .i64 m1, .int .i64 m2, .slice A0 n c, .slice B k d, .int .i64 m5, .int .i64 m6, .int .i64 m7, .int .i64 m8] MT)).heap.size = w.heap.size + 1 by simp, hw1] at h
    exact h
  have HW1 := hide hw1
  have HR0 := hide q0
  have HR1 := hide q1
  have HQ1 := hide hq1
  obtain ⟨k0, k1, k2, k3, k4, k5, k6, k7, k8⟩ := cells9 q0
  clear hw1 hq1 q0 q1
  go_enter Tryz.func55, Tryz.ntmps55
  go_wp2_with fail
  rw [HW1.out]
  refine Ri.made_last (Ri.phi [Ri.isV (.pointer (some ⟨w.heap.size, 6, none⟩)), Ri.isV (.int .i64 m6), Ri.isV (.agg #[.int .i64 m0, .int .i64 m1, .int .i64 m2, .slice A0 n c, .slice B k d, .int .i64 m5, .int .i64 m6, .int .i64 m7, .int .i64 m8]), Ri.isV (.int .i64 u), Ri.isV (.int .i64 (max m6 u)), Ri.isV (.pointer (some ⟨w.heap.size, 6, none⟩))]) (by kernel_rfl) (by kernel_rfl) rfl (by kernel_rfl) rfl (Ri.phi_mono ?_) ?_ ?_
  · exact ⟨Ri.mono_isV _, Ri.mono_isV _, Ri.mono_isV _, Ri.mono_isV _, Ri.mono_isV _, Ri.mono_isV _, trivial⟩
  · refine Ri.All.cons ?_ (Ri.All.cons ?_ (Ri.All.cons ?_ (Ri.All.cons ?_ (Ri.All.cons ?_ (Ri.All.cons ?_ (Ri.All.nil))))))
    · refine ⟨rfl, fun f W hq hf A hA hB hO => ?_⟩
      have e1 := (hB 1 (by kernel_rfl)).trans (show _ = .pointer (some ⟨w.heap.size, 0, none⟩) by simp [Act.eval])
      exact Ri.wp_value _ (Ri.run_fld (f := _) rfl e1 Tryz.underlying32 rfl (sz := 0) (by kernel_rfl)) rfl
    · refine ⟨rfl, fun f W hq hf A hA hB hO => ?_⟩
      have e1 := (hA 3 0 (by kernel_rfl) (by simp)).trans (show f 0 = _ from hf 0 (by kernel_rfl))
      exact Ri.wp_value _ (Ri.run_ld1 rfl e1 Tryz.underlying3 rfl ((((Q.refl w1).drew.trans hq).facts.1 _ 6 hs0).trans k6)) rfl
    · refine ⟨rfl, fun f W hq hf A hA hB hO => ?_⟩
      have e1 := (hB 1 (by kernel_rfl)).trans (show _ = .pointer (some ⟨w.heap.size, 0, none⟩) by simp [Act.eval])
      exact Ri.wp_value _ (Ri.run_ldrow rfl e1 ((((Q.refl w1).drew.trans hq).below.block _ hs0).trans HR0.out) Tryz.underlying32 rfl (by kernel_rfl)) rfl
    · refine ⟨rfl, fun f W hq hf A hA hB hO => ?_⟩
      have e1 := (hA 5 2 (by kernel_rfl) (by simp)).trans (show f 2 = _ from hf 2 (by kernel_rfl))
      refine Ri.wp_call #[.agg #[.int .i64 m0, .int .i64 m1, .int .i64 m2, .slice A0 n c, .slice B k d, .int .i64 m5, .int .i64 m6, .int .i64 m7, .int .i64 m8]] rfl (by simp [e1]) Tryz.func32 (by kernel_rfl) (by kernel_rfl) ((HU.out W (HQ1.out.trans ((Q.refl w1).drew.trans hq))).mono ?_)
      rintro e w3 ⟨rfl, hq3⟩
      exact ⟨_, rfl, hq3, rfl⟩
    · refine ⟨rfl, fun f W hq hf A hA hB hO => ?_⟩
      have e1 := (hA 4 1 (by kernel_rfl) (by simp)).trans (show f 1 = _ from hf 1 (by kernel_rfl))
      have e2 := (hA 6 3 (by kernel_rfl) (by simp)).trans (show f 3 = _ from hf 3 (by kernel_rfl))
      exact Ri.wp_value _ (Ri.run_maxi rfl e1 e2) rfl
    · refine ⟨rfl, fun f W hq hf A hA hB hO => ?_⟩
      have e1 := (hB 1 (by kernel_rfl)).trans (show _ = .pointer (some ⟨w.heap.size, 0, none⟩) by simp [Act.eval])
      exact Ri.wp_value _ (Ri.run_fld (f := _) rfl e1 Tryz.underlying32 rfl (sz := 0) (by kernel_rfl)) rfl
  · intro f W hq hf A' hAe hA hB
    have hqw : Q w1 W := hq
    have e1 := (hA 8 5 (by kernel_rfl) (by simp)).trans (show f 5 = _ from hf 5 (by simp))
    have e2 := (hA 7 4 (by kernel_rfl) (by simp)).trans (show f 4 = _ from hf 4 (by simp))
    have q0 := (hqw.below.block _ hs0).trans HR0.out
    have q1 := (hqw.below.block _ hs1).trans HR1.out
    obtain ⟨k0, k1, k2, k3, k4, k5, k6, k7, k8⟩ := cells9 q0
    obtain ⟨-, -, -, -, -, -, f6, -, -⟩ := free9 q0
    refine Ri.wp_store rfl e1 e2 rfl (by kernel_rfl) rfl (by simp [Value.oneCell']) k6 f6 ?_
    rw [hAe]
    simp only [Ri.acts, Act.put, List.setIfInBounds_toArray, List.set_cons_zero, List.set_cons_succ]
    obtain ⟨z0, z1, z2, z3, z4, z5, z6, z7, z8⟩ := cells9 q1
    obtain ⟨y0, y1, y2, y3, y4, y5, y6, y7, y8⟩ := free9 q1
    have HR1 := hide (show (W.setCell ⟨w.heap.size, 6, none⟩ (.int .i64 (max m6 u))).heap[w.heap.size + 1]? = _ from (heap_setCell_other _ _ _ _ (by simp)).trans q1)
    have HQ := hide ((HQ1.out.trans hqw).set (p := ⟨w.heap.size, 6, none⟩) (Nat.le_refl _) (.int .i64 (max m6 u)))
    have hs0 : w.heap.size < W.heap.size := by have := hqw.size; omega
    have hs1 : w.heap.size + 1 < W.heap.size := by have := hqw.size; omega
    clear hf hA hB hAe e1 e2 hq hqw q0 q1 HU
    go_wp2_with fail
    have hg := row9 (w := (W.setCell ⟨w.heap.size, 6, none⟩ (.int .i64 (max m6 u)))) (b := w.heap.size + 1) (.int .i64 m0) (.int .i64 m1) (.int .i64 m2) (.slice A0 n c) (.slice B k d) (.int .i64 m5) (.int .i64 (max m6 u)) (.int .i64 m7) (.int .i64 m8) HR1.out
    have hF := q9 (w0 := w) (w := (W.setCell ⟨w.heap.size, 6, none⟩ (.int .i64 (max m6 u)))) (b := w.heap.size + 1) (.int .i64 m0) (.int .i64 m1) (.int .i64 m2) (.slice A0 n c) (.slice B k d) (.int .i64 m5) (.int .i64 (max m6 u)) (.int .i64 m7) (.int .i64 m8) (HQ.out) (by omega)
    refine bodyPost_ret (v := .agg #[.int .i64 m0, .int .i64 m1, .int .i64 m2, .slice A0 n c, .slice B k d, .int .i64 m5, .int .i64 (max m6 u), .int .i64 m7, .int .i64 m8]) (ret_m1 (p := 2) rfl rfl (by simp) hg) rfl ?_
    exact ⟨rfl, hF⟩
theorem rSet_fr (v : RV) (f t : Nat) (x : Int) (w : World) (H : RmR w v) (N : RmN v.m) (hft : f ≤ t) (htk : (t : Int) ≤ v.m.size) (hk0 : 0 < v.m.size) : Calls Tryz.prog 56 #[v.val, .int .i64 (f : Int), .int .i64 (t : Int), .int .i64 x] w fun e w' => ∃ v', e = .returned v'.val ∧ v'.m = setR v.m f t x ∧ RmR w' v' ∧ Fr w.heap.size v v' ∧ Q w w' := by
  have hk := N.k
  have hl := H.y.len
  have hsz := N.sz
  refine (rSet_any v f t x w H N hft (by omega) (by omega) (by omega)).mono ?_
  rintro e w' ⟨v', h1, h2, h3, hA, hn, hc, hO, -, h4⟩
  exact ⟨v', h1, h2, h3, ⟨.inl ⟨hA, by rw [h2]; rfl⟩, fr_own hO⟩, h4⟩
theorem rPut_fr (v : RV) (at_ z : Int) (w : World) (H : RmR w v) (N : RmN v.m) (ha0 : 0 ≤ at_) (ha1 : at_ ≤ 4096) (hz0 : 0 ≤ z) (hz1 : z ≤ 4096) : Calls Tryz.prog 57 #[v.val, .int .i64 at_, .int .i64 z] w fun e w' => ∃ v', e = .returned v'.val ∧ v'.m = putR v.m at_ z ∧ RmR w' v' ∧ Fr w.heap.size v v' ∧ Q w w' := by
  refine (rPut_any v at_ z w H N ha0 ha1 hz0 hz1).mono ?_
  rintro e w' ⟨v', h1, h2, h3, hB, hk, hd, hO, h4⟩
  exact ⟨v', h1, h2, h3, ⟨fr_own hO, .inl ⟨hB, by rw [h2]; rfl⟩⟩, h4⟩
theorem rGone_fr (v : RV) (j : Nat) (x y : Int) (w : World) (H : RmR w v) (N : RmN v.m) (hj : v.m.bl[j]? = some (x, y)) : Calls Tryz.prog 59 #[v.val, .int .i64 (j : Int)] w fun e w' => ∃ v', e = .returned v'.val ∧ v'.m = goneR v.m j x ∧ RmR w' v' ∧ Fr w.heap.size v v' ∧ Q w w' := by
  refine (rGone_any v j x y w H N hj).mono ?_
  rintro e w' ⟨v', h1, h2, h3, hB, hk, hd, hO, h4⟩
  exact ⟨v', h1, h2, h3, ⟨fr_own hO, .inl ⟨hB, by rw [h2]; rfl⟩⟩, h4⟩
noncomputable def storeMR (m : RM) (at_ b : Int) : RM × Int :=
  if (decide (0 ≤ b) && decide (b ≤ 255)) = false then (m, 1) else if liveR m.bl at_ = false then (m, 9) else (setR m at_.toNat (at_.toNat + 1) b, 0)
set_option maxRecDepth 100000 in
set_option maxHeartbeats 8000000 in
theorem rStore_any (v : RV) (at_ b : Int) (w : World) (H : RmR w v) (N : RmN v.m) : Calls Tryz.prog 28 #[v.val, .int .i64 at_, .int .i64 b] w fun e w' => ∃ v', e = .returned (.tuple #[v'.val, .int .i64 (storeMR v.m at_ b).2]) ∧ v'.m = (storeMR v.m at_ b).1 ∧ RmR w' v' ∧ Fr w.heap.size v v' ∧ Q w w' := by
  have HLV := hide fun (W : World) (h : Q w W) => isLive_any v at_ W (H.up h) N
  have HWI := hide fun (W : World) => within_any b 0 255 W
  have HS : Hid (∀ (W : World) (j : Nat), Q w W → at_ = (j : Int) → 0 ≤ at_ → at_ < v.m.size → Calls Tryz.prog 56 #[v.val, .int .i64 at_, .int .i64 (at_ + 1), .int .i64 b] W fun e w' => ∃ v', e = .returned v'.val ∧ v'.m = setR v.m at_.toNat (at_.toNat + 1) b ∧ RmR w' v' ∧ Fr W.heap.size v v' ∧ Q W w') := fun W j h ej h0 h1 => by
    subst ej
    have e1 : (j : Int) + 1 = ((j + 1 : Nat) : Int) := by omega
    rw [Int.toNat_natCast, e1]
    exact rSet_fr v j (j + 1) b W (H.up h) N (by omega) (by omega) (by omega)
  have HRM := hide H
  have NL := hide fun h => N.live (at_ := at_) h
  have hm11 := N.sz.2
  obtain ⟨R, hR⟩ : ∃ R, R = storeMR v.m at_ b := ⟨_, rfl⟩
  rw [← hR]
  unfold storeMR at hR
  obtain ⟨p, hp⟩ : ∃ p, p = (decide (0 ≤ b) && decide (b ≤ 255)) := ⟨_, rfl⟩
  obtain ⟨q, hq⟩ : ∃ q, q = liveR v.m.bl at_ := ⟨_, rfl⟩
  obtain ⟨SM, hSM⟩ : ∃ SM, SM = setR v.m at_.toNat (at_.toNat + 1) b := ⟨_, rfl⟩
  rw [← hp] at HWI hR
  rw [← hq] at HLV NL hR
  rw [← hSM] at HS hR
  clear hp hq hSM H N
  unfold RV.val RV.cells at HLV HS ⊢
  obtain ⟨A0, n, c, B, k, d, ⟨m0, m1, m2, bl, ys, m5, m6, m7, m8⟩⟩ := v
  dsimp only at HLV HS NL hm11 hR ⊢
  have HR := hide hR
  clear hR
  obtain ⟨w1, hw1⟩ : ∃ w1, (w.alloc (.cells #[.int .i64 m0, .int .i64 m1, .int .i64 m2, .slice A0 n c, .slice B k d, .int .i64 m5, .int .i64 m6, .int .i64 m7, .int .i64 m8] MT)).alloc (.cells #[.int .i64 0, .int .i64 0, .int .i64 0, .slice none 0 0, .slice none 0 0, .int .i64 0, .int .i64 0, .int .i64 0, .int .i64 0] MT) = w1 := ⟨_, rfl⟩
  have hq1 : Q w w1 := by rw [← hw1]; exact ((Q.refl w).alloc _).alloc _
  have hs1 : w.heap.size + 1 < w1.heap.size := by rw [← hw1]; simp
  have hs0 : w.heap.size < w1.heap.size := by omega
  have q0 : w1.heap[w.heap.size]? = some (.cells #[.int .i64 m0, .int .i64 m1, .int .i64 m2, .slice A0 n c, .slice B k d, .int .i64 m5, .int .i64 m6, .int .i64 m7, .int .i64 m8] MT (0, 0)) := by
    rw [← hw1, ((Q.refl (w.alloc _)).alloc _).below.block _ (by simp)]
    exact heap_alloc_new w _
  have q1 : w1.heap[w.heap.size + 1]? = some (.cells #[.int .i64 0, .int .i64 0, .int .i64 0, .slice none 0 0, .slice none 0 0, .int .i64 0, .int .i64 0, .int .i64 0, .int .i64 0] MT (0, 0)) := by
    have h := heap_alloc_new (w.alloc (.cells #[.int .i64 m0, .int .i64 m1, .int .i64 m2, .slice A0 n c, .slice B k d, .int .i64 m5, .int .i64 m6, .int .i64 m7, .int .i64 m8] MT)) (.cells #[.int .i64 0, .int .i64 0, .int .i64 0, .slice none 0 0, .slice none 0 0, .int .i64 0, .int .i64 0, .int .i64 0, .int .i64 0] MT)
    rw [show (w.alloc (.cells #[.int .i64 m0, .int .i64 m1, .int .i64 m2, .slice A0 n c, .slice B k d, .int .i64 m5, .int .i64 m6, .int .i64 m7, .int .i64 m8] MT)).heap.size = w.heap.size + 1 by simp, hw1] at h
    exact h
  have HW1 := hide hw1
  have HR0 := hide q0
  have HR1 := hide q1
  have HQ1 := hide hq1
  have HLW := hide (HLV.out w1 HQ1.out)
  obtain ⟨k0, k1, k2, k3, k4, k5, k6, k7, k8⟩ := cells9 q0
  obtain ⟨z0, z1, z2, z3, z4, z5, z6, z7, z8⟩ := cells9 q1
  obtain ⟨y0, y1, y2, y3, y4, y5, y6, y7, y8⟩ := free9 q1
  clear hw1 hq1 q0 q1 HLV
  go_enter Tryz.func28, Tryz.ntmps28
  cases p
  · have HRR : Hid (R = (⟨m0, m1, m2, bl, ys, m5, m6, m7, m8⟩, 1)) := hide (by rw [HR.out, if_pos rfl])
    clear HLW HS NL HR
    go_wp2_with (go_at_call 15; refine (HWI.out _).mono ?_; rintro e w2 ⟨rfl, rfl⟩; rw [HW1.out])
    have hg := row9 (w := w1) (b := w.heap.size + 1) (.int .i64 m0) (.int .i64 m1) (.int .i64 m2) (.slice A0 n c) (.slice B k d) (.int .i64 m5) (.int .i64 m6) (.int .i64 m7) (.int .i64 m8) HR1.out
    have hF := q9 (w0 := w) (w := w1) (b := w.heap.size + 1) (.int .i64 m0) (.int .i64 m1) (.int .i64 m2) (.slice A0 n c) (.slice B k d) (.int .i64 m5) (.int .i64 m6) (.int .i64 m7) (.int .i64 m8) (HQ1.out) (by omega)
    refine bodyPost_ret (v := .tuple #[.agg #[.int .i64 m0, .int .i64 m1, .int .i64 m2, .slice A0 n c, .slice B k d, .int .i64 m5, .int .i64 m6, .int .i64 m7, .int .i64 m8], .int .i64 1]) (ret_m2 (p := 6) (u := 7) rfl rfl (by simp) (by simp) hg) rfl ?_
    rw [HRR.out]
    exact ⟨⟨A0, n, c, B, k, d, ⟨m0, m1, m2, bl, ys, m5, m6, m7, m8⟩⟩, rfl, rfl, HRM.out.up hF, Fr.refl _ _, hF⟩
  · rw [if_neg (by decide)] at HR
    go_wp2_with (go_at_call 15; refine (HWI.out _).mono ?_; rintro e w2 ⟨rfl, rfl⟩; rw [HW1.out])
    refine HLW.out.mono ?_
    rintro e w2 ⟨rfl, hq2⟩
    have q0 := (hq2.below.block _ hs0).trans HR0.out
    have q1 := (hq2.below.block _ hs1).trans HR1.out
    obtain ⟨k0, k1, k2, k3, k4, k5, k6, k7, k8⟩ := cells9 q0
    obtain ⟨z0, z1, z2, z3, z4, z5, z6, z7, z8⟩ := cells9 q1
    obtain ⟨y0, y1, y2, y3, y4, y5, y6, y7, y8⟩ := free9 q1
    have HR0 := hide q0
    have HR1 := hide q1
    have HQ := hide (HQ1.out.trans hq2)
    have hs0 : w.heap.size < w2.heap.size := by have := hq2.size; omega
    have hs1 : w.heap.size + 1 < w2.heap.size := by have := hq2.size; omega
    clear q0 q1 hq2
    cases q
    · have HRR : Hid (R = (⟨m0, m1, m2, bl, ys, m5, m6, m7, m8⟩, 9)) := hide (by rw [HR.out, if_pos rfl])
      clear NL HS HR
      go_wp2_with fail
      have hg := row9 (w := w2) (b := w.heap.size + 1) (.int .i64 m0) (.int .i64 m1) (.int .i64 m2) (.slice A0 n c) (.slice B k d) (.int .i64 m5) (.int .i64 m6) (.int .i64 m7) (.int .i64 m8) HR1.out
      have hF := q9 (w0 := w) (w := w2) (b := w.heap.size + 1) (.int .i64 m0) (.int .i64 m1) (.int .i64 m2) (.slice A0 n c) (.slice B k d) (.int .i64 m5) (.int .i64 m6) (.int .i64 m7) (.int .i64 m8) (HQ.out) (by omega)
      refine bodyPost_ret (v := .tuple #[.agg #[.int .i64 m0, .int .i64 m1, .int .i64 m2, .slice A0 n c, .slice B k d, .int .i64 m5, .int .i64 m6, .int .i64 m7, .int .i64 m8], .int .i64 9]) (ret_m2 (p := 6) (u := 7) rfl rfl (by simp) (by simp) hg) rfl ?_
      rw [HRR.out]
      exact ⟨⟨A0, n, c, B, k, d, ⟨m0, m1, m2, bl, ys, m5, m6, m7, m8⟩⟩, rfl, rfl, HRM.out.up hF, Fr.refl _ _, hF⟩
    · have HRR : Hid (R = (SM, 0)) := hide (by rw [HR.out, if_neg (by decide)])
      clear HR
      obtain ⟨ha0, ha1⟩ := NL.out rfl
      obtain ⟨j, hj⟩ : ∃ j : Nat, at_ = (j : Int) := ⟨at_.toNat, by omega⟩
      have HSW := hide (HS.out w2 j HQ.out hj ha0 ha1)
      have hm1 : at_ ≤ 4096 := by have := hm11; omega
      clear HS NL hj
      go_wp2_with fail
      refine HSW.out.mono ?_
      rintro e w3 ⟨⟨A', n', c', B', k', d', ⟨r0, r1, r2, rb, ry, r5, r6, r7, r8⟩⟩, rfl, hm, hR, hfr, hq3⟩
      have HM := hide hm
      have HRM3 := hide hR
      have HFR := hide hfr
      have hs12 : w.heap.size + 1 < w2.heap.size := hs1
      dsimp only [RV.val, RV.cells]
      clear hm hR hfr
      have q0 := (hq3.below.block _ hs0).trans HR0.out
      have q1 := (hq3.below.block _ hs1).trans HR1.out
      obtain ⟨k0, k1, k2, k3, k4, k5, k6, k7, k8⟩ := cells9 q0
      obtain ⟨z0, z1, z2, z3, z4, z5, z6, z7, z8⟩ := cells9 q1
      obtain ⟨y0, y1, y2, y3, y4, y5, y6, y7, y8⟩ := free9 q1
      have HR0 := hide q0
      have HR1 := hide q1
      have HQ3 := hide (HQ.out.trans hq3)
      have hs0 : w.heap.size < w3.heap.size := by have := hq3.size; omega
      have hs1 : w.heap.size + 1 < w3.heap.size := by have := hq3.size; omega
      clear q0 q1 hq3
      go_wp2_with fail
      have hg := row9 (w := w3) (b := w.heap.size + 1) (.int .i64 r0) (.int .i64 r1) (.int .i64 r2) (.slice A' n' c') (.slice B' k' d') (.int .i64 r5) (.int .i64 r6) (.int .i64 r7) (.int .i64 r8) HR1.out
      have hF := q9 (w0 := w) (w := w3) (b := w.heap.size + 1) (.int .i64 r0) (.int .i64 r1) (.int .i64 r2) (.slice A' n' c') (.slice B' k' d') (.int .i64 r5) (.int .i64 r6) (.int .i64 r7) (.int .i64 r8) (HQ3.out) (by omega)
      refine bodyPost_ret (v := .tuple #[.agg #[.int .i64 r0, .int .i64 r1, .int .i64 r2, .slice A' n' c', .slice B' k' d', .int .i64 r5, .int .i64 r6, .int .i64 r7, .int .i64 r8], .int .i64 0]) (ret_m2 (p := 6) (u := 7) rfl rfl (by simp) (by simp) hg) rfl ?_
      have hR9 := RmR.keep HRM.out HRM3.out HFR.out (b := w.heap.size + 1) (by omega) hs12 (fun g _ => keep9 w3 (w.heap.size + 1) (.int .i64 r0) (.int .i64 r1) (.int .i64 r2) (.slice A' n' c') (.slice B' k' d') (.int .i64 r5) (.int .i64 r6) (.int .i64 r7) (.int .i64 r8) g) (by simp [World.setCell])
      rw [HRR.out]
      exact ⟨⟨A', n', c', B', k', d', ⟨r0, r1, r2, rb, ry, r5, r6, r7, r8⟩⟩, rfl, HM.out, hR9, Fr.trans (Fr.refl w.heap.size _) HFR.out (by omega), hF⟩
end Go.Proofs.YtegpkcbmgjoicaaGreat
