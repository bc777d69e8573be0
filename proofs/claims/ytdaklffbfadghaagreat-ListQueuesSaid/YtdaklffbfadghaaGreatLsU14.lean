/- The document's list: Fits, Get, Insert. The document's list: Insert that succeeds, Set. Remove of the document's list. Conditions: as each theorem says. -/
import Derived.Test.YtdaklffbfadghaaGreatLsU13
namespace Go.Proofs.YtdaklffbfadghaaGreat
open Go.RowKit HP
set_option linter.unusedVariables false
set_option linter.unusedSimpArgs false
set_option maxHeartbeats 4000000 in
set_option maxRecDepth 100000 in
theorem fits_any (v : Int) (w : World) : Calls Tryz.prog 68 #[.int .i64 v] w fun e w' => e = .returned (.bool (fitsB v)) ∧ Q w w' := by
  have hf : fitsB v = (decide (-2147483648 ≤ v) && decide (v ≤ 2147483647)) := by
    unfold fitsB
    by_cases h1 : -2147483648 ≤ v
    · by_cases h2 : v ≤ 2147483647
      · simp [h1, h2] <;> omega
      · simp [h1, h2] <;> omega
    · simp [h1] <;> omega
  rw [hf]
  clear hf
  cases h1 : decide (-2147483648 ≤ v)
  · go_enter Tryz.func68, Tryz.ntmps68
    go_wp2_with fail
    go_ret
    exact ⟨rfl, Q.refl _⟩
  · cases h2 : decide (v ≤ 2147483647)
    · go_enter Tryz.func68, Tryz.ntmps68
      go_wp2_with fail
      go_ret
      exact ⟨rfl, Q.refl _⟩
    · go_enter Tryz.func68, Tryz.ntmps68
      go_wp2_with fail
      go_ret
      exact ⟨rfl, Q.refl _⟩
/-- a list of the document at its place -/
structure RL (W : World) (nb g c : Nat) (xs : List Int) : Prop where
  box : W.heap[nb]? = some (.cells #[.slice (some ⟨g, 0, none⟩) xs.length c] 47 (0, 0))
  own : W.ownsRow 0 3 1 (.slice (some ⟨g, 0, none⟩) xs.length c) xs.length (intsV xs)
section
variable {w W : World} {nb g c : Nat} {xs : List Int}
theorem RL.q (R : RL w nb g c xs) (hq : Q w W) : RL W nb g c xs := ⟨(hq.below.block _ (blk_lt R.box)).trans R.box, own_q R.own hq⟩
theorem RL.k (R : RL w nb g c xs) : w.cell? ⟨nb, 0, none⟩ = some (.slice (some ⟨g, 0, none⟩) xs.length c) ∧ w.frozen? ⟨nb, 0, none⟩ = false ∧ nb < w.heap.size := ⟨by rw [cell_of_row _ _ _ _ _ _ R.box]; rfl, frozen_of_row _ _ _ _ _ R.box, blk_lt R.box⟩
theorem RL.cap (R : RL w nb g c xs) : xs.length ≤ c ∧ c ≤ maxLen ∧ g < w.heap.size := by
  rcases R.own.2 with ⟨h0, -⟩ | ⟨g', cap, cur, e1, hb, hh, h1, h2, -⟩
  · cases h0
  · cases e1
    exact ⟨h1, h2, blk_lt hh⟩
theorem RL.ne (R : RL w nb g c xs) : nb ≠ g := fun e => by
  obtain ⟨cs, hc⟩ := own_blk R.own (g := g) rfl
  have hb := R.box
  rw [e, hc] at hb
  injection hb with hb
  injection hb with _ h2 _
  exact absurd h2 (by decide)
theorem RL.rd (R : RL w nb g c xs) : Rd w w.heap.size (some ⟨g, 0, none⟩) (intsV xs) := own_rd R.own
theorem intsV_cell (l : List Int) : ∀ u ∈ intsV l, u.oneCell' = true := fun u hu => by
  obtain ⟨x, _, rfl⟩ := List.mem_map.1 hu
  rfl
theorem RL.at_ (R : RL w nb g c xs) {i : Nat} {x : Int} (h : xs[i]? = some x) : w.cell? ⟨g, i, none⟩ = some (.int .i64 x) := by
  obtain ⟨hi, e⟩ := List.getElem?_eq_some_iff.1 h
  rw [R.own.cellAt i (by omega)]
  unfold intsV
  rw [List.getElem?_map, h]
  rfl
set_option maxHeartbeats 4000000 in
set_option maxRecDepth 100000 in
theorem getR_any (R : RL w nb g c xs) (hn : xs.length ≤ 1000) (i : Int) : Calls Tryz.prog 48 #[.pointer (some ⟨nb, 0, none⟩), .int .i64 i] w fun e w' => ∃ v err, e = .returned (.tuple #[.int .i64 v, .int .i64 err]) ∧ Q w w' ∧ ((¬ (0 ≤ i ∧ i < (xs.length : Int)) ∧ v = 0 ∧ err = 4) ∨ ((0 ≤ i ∧ i < (xs.length : Int)) ∧ xs[i.toNat]? = some v ∧ err = 0)) := by
  obtain ⟨k0, f0, hl⟩ := R.k
  have HR := hide R
  obtain ⟨len, el⟩ : ∃ len, len = xs.length := ⟨_, rfl⟩
  rw [← el] at k0 hn ⊢
  have hli : (len : Int) ≤ 1000 := by omega
  have HEL := hide el
  clear R el
  by_cases hi : 0 ≤ i ∧ i < (len : Int)
  · have HII := hide hi
    have hd1 : decide (i < 0) = false := by simp; omega
    have hd2 : decide ((len : Int) ≤ i) = false := by simp; omega
    obtain ⟨j, rfl⟩ : ∃ j : Nat, i = (j : Int) := ⟨i.toNat, by omega⟩
    have hj : j < len := by omega
    have hjl : (j : Int) < (len : Int) := by omega
    obtain ⟨v, hv⟩ : ∃ v, xs[j]? = some v := ⟨xs[j]'(by rw [← HEL.out]; exact hj), List.getElem?_eq_getElem _⟩
    have HV := hide hv
    have cK := HR.out.at_ hv
    clear hi hv
    go_enter Tryz.func48, Tryz.ntmps48
    go_wp2_with fail
    go_ret2
    exact ⟨v, 0, rfl, Q.refl _, .inr ⟨HII.out, HV.out, rfl⟩⟩
  · have HNI := hide hi
    have hd : decide (i < 0) = true ∨ (decide (i < 0) = false ∧ decide ((len : Int) ≤ i) = true) := by
      by_cases h0 : i < 0
      · exact .inl (by simpa using h0)
      · exact .inr ⟨by simpa using h0, by simp; omega⟩
    clear hi
    rcases hd with hd | ⟨hd, hd2⟩
    · go_enter Tryz.func48, Tryz.ntmps48
      go_wp2_with fail
      go_ret2
      exact ⟨0, 4, rfl, Q.refl _, .inl ⟨HNI.out, rfl, rfl⟩⟩
    · go_enter Tryz.func48, Tryz.ntmps48
      go_wp2_with fail
      go_ret2
      exact ⟨0, 4, rfl, Q.refl _, .inl ⟨HNI.out, rfl, rfl⟩⟩
/-- what the document's Insert says -/
def insP (xs : List Int) (i v : Int) : Int := if fitsB v = false then 1 else if ¬ (0 ≤ i ∧ i ≤ (xs.length : Int)) then 4 else if 64 ≤ xs.length then 3 else 0
def RefO (w W : World) (nb : Nat) (err : Int) (ys : List Int) : Prop := (¬ err = 0 → Q w W) ∧ (err = 0 → ∃ g' c', RL W nb g' c' ys ∧ Turn (fun b => b = nb) w W ∧ w.heap.size ≤ g')
set_option maxHeartbeats 4000000 in
set_option maxRecDepth 100000 in
theorem insertR_bad (R : RL w nb g c xs) (hn : xs.length ≤ 1000) (i v : Int) (he : ¬ insP xs i v = 0) : Calls Tryz.prog 18 #[.pointer (some ⟨nb, 0, none⟩), .int .i64 i, .int .i64 v] w fun e w' => e = .returned (.int .i64 (insP xs i v)) ∧ Q w w' := by
  obtain ⟨k0, f0, hl⟩ := R.k
  have HFT := hide (fits_any v)
  have HKK : Hid (∀ W, Q w W → W.cell? ⟨nb, 0, none⟩ = some (.slice (some ⟨g, 0, none⟩) xs.length c) ∧ nb < W.heap.size) := fun W hq => ⟨(R.q hq).k.1, (R.q hq).k.2.2⟩
  obtain ⟨len, el⟩ : ∃ len, len = xs.length := ⟨_, rfl⟩
  unfold insP at he ⊢
  rw [← el] at hn he HKK ⊢
  have hli : (len : Int) ≤ 1000 := by omega
  clear R el k0 f0 hl
  cases hf : fitsB v
  · rw [if_pos rfl]
    rw [hf] at HFT
    have HFT : Hid (∀ W, Calls Tryz.prog 68 #[.int .i64 v] W fun e w' => e = .returned (.bool false) ∧ Q W w') := HFT
    clear he hf
    go_enter Tryz.func18, Tryz.ntmps18
    go_wp2_with (go_at_call 68; refine (HFT.out _).mono ?_; rintro e w1 ⟨rfl, hq1⟩)
    go_ret
    exact ⟨rfl, hq1⟩
  · rw [hf] at HFT
    have HFT : Hid (∀ W, Calls Tryz.prog 68 #[.int .i64 v] W fun e w' => e = .returned (.bool true) ∧ Q W w') := HFT
    rw [if_neg (by decide)]
    rw [hf, if_neg (by decide)] at he
    clear hf
    by_cases hi : 0 ≤ i ∧ i ≤ (len : Int)
    · rw [if_neg (by omega)] at he ⊢
      have h64 : 64 ≤ len := by
        refine Classical.byContradiction fun h => he ?_
        rw [if_neg h]
      rw [if_pos h64]
      have hd1 : decide (i < 0) = false := by simp; omega
      have hd2 : decide ((len : Int) < i) = false := by simp; omega
      have hd3 : decide ((64 : Int) ≤ (len : Int)) = true := by simp; omega
      clear he hi h64
      go_enter Tryz.func18, Tryz.ntmps18
      go_wp2_with (go_at_call 68; refine (HFT.out _).mono ?_; rintro e w1 ⟨rfl, hq1⟩; obtain ⟨k0, hl⟩ := HKK.out _ hq1)
      go_ret
      exact ⟨rfl, hq1⟩
    · rw [if_pos hi]
      have hd : decide (i < 0) = true ∨ (decide (i < 0) = false ∧ decide ((len : Int) < i) = true) := by
        by_cases h0 : i < 0
        · exact .inl (by simpa using h0)
        · exact .inr ⟨by simpa using h0, by simp; omega⟩
      clear hi he
      rcases hd with hd | ⟨hd, hd2⟩
      · go_enter Tryz.func18, Tryz.ntmps18
        go_wp2_with (go_at_call 68; refine (HFT.out _).mono ?_; rintro e w1 ⟨rfl, hq1⟩; obtain ⟨k0, hl⟩ := HKK.out _ hq1)
        go_ret
        exact ⟨rfl, hq1⟩
      · go_enter Tryz.func18, Tryz.ntmps18
        go_wp2_with (go_at_call 68; refine (HFT.out _).mono ?_; rintro e w1 ⟨rfl, hq1⟩; obtain ⟨k0, hl⟩ := HKK.out _ hq1)
        go_ret
        exact ⟨rfl, hq1⟩
end
end Go.Proofs.YtdaklffbfadghaaGreat

namespace Go.Proofs.YtdaklffbfadghaaGreat
open Go.RowKit HP
set_option linter.unusedVariables false
set_option linter.unusedSimpArgs false
theorem insP_zero {xs : List Int} {i v : Int} (h : insP xs i v = 0) : fitsB v = true ∧ (0 ≤ i ∧ i ≤ (xs.length : Int)) ∧ xs.length < 64 := by
  unfold insP at h
  split at h
  · cases h
  · rename_i h1
    split at h
    · cases h
    · rename_i h2
      split at h
      · cases h
      · exact ⟨by simpa using h1, by omega, by omega⟩
def RefOk (w : World) (nb : Nat) (ys : List Int) (W : World) : Prop := ∃ v, W.heap[nb]? = some (.cells #[v] 47 (0, 0)) ∧ W.ownsRow w.heap.size 3 1 v ys.length (intsV ys) ∧ Turn (fun b => b = nb) w W
section
variable {w W : World} {nb g c : Nat} {xs : List Int}
/-- behind the store of a new row -/
theorem RL.laid (R : RL w nb g c xs) {W : World} (hq : Q w W) {v : Value} {ys : List Int} (ho : W.ownsRow w.heap.size 3 1 v ys.length (intsV ys)) (hv : v ≠ .slice none 0 0) : ∃ g' c', v = .slice (some ⟨g', 0, none⟩) ys.length c' ∧ RL (W.setCell ⟨nb, 0, none⟩ v) nb g' c' ys ∧ Turn (fun b => b = nb) w (W.setCell ⟨nb, 0, none⟩ v) ∧ w.heap.size ≤ g' := by
  have hl := blk_lt R.box
  rcases ho.2 with ⟨e, -⟩ | ⟨g', cap, cur, e, hb, hh, h1, h2, h3, h4⟩
  · exact absurd e hv
  · subst e
    have hne : g' ≠ nb := by omega
    refine ⟨g', cap, rfl, ⟨?_, ?_⟩, ?_, hb⟩
    · have := heap_setCell_same W nb 0 _ _ (.slice (some ⟨g', 0, none⟩) ys.length cap) ((hq.below.block _ hl).trans R.box)
      rw [this]
      rfl
    · exact own_same (own_low ho (Nat.zero_le _)) fun b hb' => by
        cases hb'
        exact heap_setCell_other _ _ _ _ hne
    · exact (Turn.of_q hq).set (S := fun b => b = nb) (p := ⟨nb, 0, none⟩) rfl _
theorem RL.laidV (R : RL w nb g c xs) {W : World} (hq : Q w W) {v : Value} {ys : List Int} (ho : W.ownsRow w.heap.size 3 1 v ys.length (intsV ys)) : RefOk w nb ys (W.setCell ⟨nb, 0, none⟩ v) := by
  have hl := blk_lt R.box
  refine ⟨v, ?_, own_same ho fun b hb' => heap_setCell_other _ _ _ _ fun e => ?_, (Turn.of_q hq).set (S := fun b => b = nb) (p := ⟨nb, 0, none⟩) rfl _⟩
  · have := heap_setCell_same W nb 0 _ _ v ((hq.below.block _ hl).trans R.box)
    rw [this]
    rfl
  · have h1 := (ho.lt b hb').1
    have e : b = nb := e
    omega
set_option maxHeartbeats 4000000 in
set_option maxRecDepth 100000 in
theorem insertR_ok (R : RL w nb g c xs) (i v : Int) (he : insP xs i v = 0) : Calls Tryz.prog 18 #[.pointer (some ⟨nb, 0, none⟩), .int .i64 i, .int .i64 v] w fun e w' => e = .returned (.int .i64 0) ∧ RefOk w nb (insAt xs i.toNat [v]) w' := by
  obtain ⟨hf, hi, h64⟩ := insP_zero he
  obtain ⟨j, rfl⟩ : ∃ j : Nat, i = (j : Int) := ⟨i.toNat, by omega⟩
  rw [Int.toNat_natCast]
  have HFT : Hid (∀ W, Calls Tryz.prog 68 #[.int .i64 v] W fun e w' => e = .returned (.bool true) ∧ Q W w') := fun W => by
    have := fits_any v W
    rw [hf] at this
    exact this
  obtain ⟨hc1, hc2, hgl⟩ := R.cap
  have HKK : Hid (∀ W, Q w W → W.cell? ⟨nb, 0, none⟩ = some (.slice (some ⟨g, 0, none⟩) xs.length c) ∧ W.frozen? ⟨nb, 0, none⟩ = false ∧ nb < W.heap.size) := fun W hq => (R.q hq).k
  have HRD : Hid (∀ W, Q w W → Rd W W.heap.size (some ⟨g, 0, none⟩) ((intsV xs).take j)) := fun W hq => (R.q hq).rd.take j
  have HRD2 : Hid (∀ W, Q w W → Rd W W.heap.size (some ⟨g, j, none⟩) ((intsV xs).drop j)) := fun W hq => by
    have := (R.q hq).rd.dropAt j
    simpa using this
  have HR := hide R
  have HE : Hid ((intsV xs).take j ++ [.int .i64 v] ++ (intsV xs).drop j = intsV (insAt xs j [v])) := by
    unfold intsV insAt
    rw [List.map_append, List.map_append, List.map_take, List.map_drop, List.append_assoc]
    rfl
  have hlen : (intsV xs).length = xs.length := by unfold intsV; rw [List.length_map]
  obtain ⟨len, el⟩ : ∃ len, len = xs.length := ⟨_, rfl⟩
  have HIL : Hid ((insAt xs j [v]).length = len + 1) := by show (insAt xs j [v]).length = len + 1; rw [insAt_len _ _ _ (by omega), el]; rfl
  rw [← el] at hi h64 hc1 HKK hlen
  have hjl : j ≤ len := by omega
  have hji : (j : Int) ≤ (len : Int) := by omega
  have hli : (len : Int) < 64 := by omega
  have hd1 : decide ((j : Int) < 0) = false := by simp
  have hd2 : decide ((len : Int) < (j : Int)) = false := by simp; omega
  have hd3 : decide ((64 : Int) ≤ (len : Int)) = false := by simp; omega
  have hjc : j ≤ c := by omega
  have HT1 : Hid (((intsV xs).take j).length = j * 1) := by show ((intsV xs).take j).length = j * 1; rw [List.length_take]; omega
  have HT2 : Hid (((intsV xs).drop j).length = (len - j) * 1) := by show ((intsV xs).drop j).length = (len - j) * 1; rw [List.length_drop]; omega
  have HC1 : Hid (∀ u ∈ (intsV xs).take j, u.oneCell' = true) := fun u hu => intsV_cell xs u (List.mem_of_mem_take hu)
  have HC2 : Hid (∀ u ∈ (intsV xs).drop j, u.oneCell' = true) := fun u hu => intsV_cell xs u (List.mem_of_mem_drop hu)
  clear he hf hi R el hlen
  by_cases hcj : c = j
  · have HRD3 : Hid (∀ W, Q w W → Rd W W.heap.size (some ⟨g, 0, none⟩) ((intsV xs).drop j)) := fun W hq => by
      have h0 : (intsV xs).drop j = [] := List.eq_nil_of_length_eq_zero (by rw [HT2.out]; omega)
      rw [h0]
      exact Rd.nil _ _ _
    clear HRD2
    have tok1 : True := trivial
    go_enter Tryz.func18, Tryz.ntmps18
    go_wp2_with (first
      | (go_at_call 68; refine (HFT.out _).mono ?_; rintro e w1 ⟨rfl, hq1⟩; obtain ⟨k0, f0, hl⟩ := HKK.out _ hq1)
      | (at_builtin; have _t := tok1; go_loud (refine wpList_apps rfl El_int _ _ rfl rfl (own_lit0 w1 w.heap.size _ 1 _ rfl hq1.size) rfl (fun h => by cases h) HT1.out (HRD.out _ (hq1.alloc _)) HC1.out ?_ ?_ ?_; (focus omega); (focus (simp; have := hq1.size; omega)); intro v3 w3 hown3 hb3; have hq3 := q_below (hq1.alloc _) hb3 (Nat.le_refl _); simp only [Nat.zero_add, List.nil_append] at hown3; obtain ⟨A3, c3, e3, -⟩ := own_form hown3; subst e3; clear tok1; have tok2 : True := trivial))
      | (at_builtin; have _t := tok2; go_loud (refine wpList_app1 rfl El_int _ _ rfl rfl hown3 rfl rfl rfl ?_ ?_ ?_ ?_; (focus (simp [Value.oneCell'])); (focus omega); (focus (exact hq3.size)); intro v4 w4 hown4 hb4; have hq4 := q_below hq3 hb4 (Nat.le_refl _); obtain ⟨k04, f04, hl4⟩ := HKK.out _ hq4; obtain ⟨A4, c4, e4, -⟩ := own_form hown4; subst e4; clear tok2; have tok3 : True := trivial))
      | (at_builtin; have _t := tok3; go_loud (refine wpList_apps rfl El_int _ _ rfl rfl hown4 rfl (fun h => by cases h) HT2.out (HRD3.out _ hq4) HC2.out ?_ ?_ ?_; (focus omega); (focus (exact hq4.size)); intro v5 w5 hown5 hb5; have hq5 := q_below hq4 hb5 (Nat.le_refl _); obtain ⟨k05, f05, hl5⟩ := HKK.out _ hq5; obtain ⟨A5, c5, e5, -⟩ := own_form hown5; subst e5; clear tok3)))
    go_ret
    have ho := hown5
    rw [HE.out, show j + 1 + (len - j) = (insAt xs j [v]).length by rw [HIL.out]; omega] at ho
    have hF := HR.out.laidV hq5 ho
    rw [show j + 1 + (len - j) = (insAt xs j [v]).length by rw [HIL.out]; omega]
    exact ⟨rfl, hF⟩
  · have tok1 : True := trivial
    go_enter Tryz.func18, Tryz.ntmps18
    go_wp2_with (first
      | (go_at_call 68; refine (HFT.out _).mono ?_; rintro e w1 ⟨rfl, hq1⟩; obtain ⟨k0, f0, hl⟩ := HKK.out _ hq1)
      | (at_builtin; have _t := tok1; go_loud (refine wpList_apps rfl El_int _ _ rfl rfl (own_lit0 w1 w.heap.size _ 1 _ rfl hq1.size) rfl (fun h => by cases h) HT1.out (HRD.out _ (hq1.alloc _)) HC1.out ?_ ?_ ?_; (focus omega); (focus (simp; have := hq1.size; omega)); intro v3 w3 hown3 hb3; have hq3 := q_below (hq1.alloc _) hb3 (Nat.le_refl _); simp only [Nat.zero_add, List.nil_append] at hown3; obtain ⟨A3, c3, e3, -⟩ := own_form hown3; subst e3; clear tok1; have tok2 : True := trivial))
      | (at_builtin; have _t := tok2; go_loud (refine wpList_app1 rfl El_int _ _ rfl rfl hown3 rfl rfl rfl ?_ ?_ ?_ ?_; (focus (simp [Value.oneCell'])); (focus omega); (focus (exact hq3.size)); intro v4 w4 hown4 hb4; have hq4 := q_below hq3 hb4 (Nat.le_refl _); obtain ⟨k04, f04, hl4⟩ := HKK.out _ hq4; obtain ⟨A4, c4, e4, -⟩ := own_form hown4; subst e4; clear tok2; have tok3 : True := trivial))
      | (at_builtin; have _t := tok3; go_loud (refine wpList_apps rfl El_int _ _ rfl rfl hown4 rfl (fun h => by cases h) HT2.out (HRD2.out _ hq4) HC2.out ?_ ?_ ?_; (focus omega); (focus (exact hq4.size)); intro v5 w5 hown5 hb5; have hq5 := q_below hq4 hb5 (Nat.le_refl _); obtain ⟨k05, f05, hl5⟩ := HKK.out _ hq5; obtain ⟨A5, c5, e5, -⟩ := own_form hown5; subst e5; clear tok3)))
    go_ret
    have ho := hown5
    rw [HE.out, show j + 1 + (len - j) = (insAt xs j [v]).length by rw [HIL.out]; omega] at ho
    have hF := HR.out.laidV hq5 ho
    rw [show j + 1 + (len - j) = (insAt xs j [v]).length by rw [HIL.out]; omega]
    exact ⟨rfl, hF⟩
theorem RL.put (R : RL w nb g c xs) {j : Nat} (v : Int) (hj : j < xs.length) : RL (w.setCell ⟨g, j, none⟩ (.int .i64 v)) nb g c (xs.set j v) := by
  have e : (intsV xs).set j (.int .i64 v) = intsV (xs.set j v) := by unfold intsV; rw [List.map_set]
  refine ⟨?_, ?_⟩
  · rw [heap_setCell_other _ _ _ _ R.ne, List.length_set]
    exact R.box
  · have := own_set R.own j (.int .i64 v)
    rw [e] at this
    rw [List.length_set]
    exact this
set_option maxHeartbeats 4000000 in
set_option maxRecDepth 100000 in
theorem setR_ok (R : RL w nb g c xs) (hn : xs.length ≤ 1000) (j : Nat) (v : Int) (hf : fitsB v = true) (hj : j < xs.length) : Calls Tryz.prog 50 #[.pointer (some ⟨nb, 0, none⟩), .int .i64 j, .int .i64 v] w fun e w' => e = .returned (.int .i64 0) ∧ RefOk w nb (xs.set j v) w' := by
  have HFT : Hid (∀ W, Calls Tryz.prog 68 #[.int .i64 v] W fun e w' => e = .returned (.bool true) ∧ Q W w') := fun W => by
    have := fits_any v W
    rw [hf] at this
    exact this
  have HKK : Hid (∀ W, Q w W → W.cell? ⟨nb, 0, none⟩ = some (.slice (some ⟨g, 0, none⟩) xs.length c) ∧ W.frozen? ⟨nb, 0, none⟩ = false ∧ nb < W.heap.size) := fun W hq => (R.q hq).k
  have HRD : Hid (∀ W, Q w W → Rd W W.heap.size (some ⟨g, 0, none⟩) (intsV xs)) := fun W hq => (R.q hq).rd
  have HR := hide R
  have hlen : (intsV xs).length = xs.length := by unfold intsV; rw [List.length_map]
  obtain ⟨len, el⟩ : ∃ len, len = xs.length := ⟨_, rfl⟩
  have HEL := hide el
  rw [← el] at hj hn HKK hlen
  have HT1 : Hid ((intsV xs).length = len * 1) := by show (intsV xs).length = len * 1; omega
  have hli : (len : Int) ≤ 1000 := by omega
  have hjl : (j : Int) < (len : Int) := by omega
  have hd1 : decide ((j : Int) < 0) = false := by simp
  have hd2 : decide ((len : Int) ≤ (j : Int)) = false := by simp; omega
  have HC1 := hide (intsV_cell xs)
  clear hf R el hlen
  have tok1 : True := trivial
  go_enter Tryz.func50, Tryz.ntmps50
  go_wp2_with (first
    | (go_at_call 68; refine (HFT.out _).mono ?_; rintro e w1 ⟨rfl, hq1⟩; obtain ⟨k0, f0, hl⟩ := HKK.out _ hq1)
    | (at_builtin; have _t := tok1; go_loud (refine wpList_apps rfl El_int _ _ rfl rfl (own_lit0 w1 w.heap.size _ 1 _ rfl hq1.size) rfl (fun h => by cases h) HT1.out (HRD.out _ (hq1.alloc _)) HC1.out ?_ ?_ ?_; (focus omega); (focus (simp; have := hq1.size; omega)); intro v3 w3 hown3 hb3; have hq3 := q_below (hq1.alloc _) hb3 (Nat.le_refl _); simp only [Nat.zero_add, List.nil_append] at hown3; obtain ⟨k03, f03, hl3⟩ := HKK.out _ hq3; rw [HEL.out] at hown3; obtain ⟨g3, c3, e3, hRL3, hT3, hg3⟩ := HR.out.laid hq3 hown3 (fun e => by rw [e] at hown3; have h9 := hown3.2; rcases h9 with ⟨-, h8⟩ | ⟨g', cap, cur, e1, -⟩; (rw [← HEL.out] at h8; omega); cases e1); rw [← HEL.out] at e3; subst e3; have HRL3 := hide hRL3; have HT3 := hide hT3; have HG3 := hide hg3; have hgl3 : g3 < w3.heap.size := (by have := hRL3.cap.2.2; simpa [World.setCell] using this); obtain ⟨x3, hx3⟩ : ∃ x, xs[j]? = some x := ⟨xs[j]'(by rw [← HEL.out]; exact hj), List.getElem?_eq_getElem _⟩; have cK3 := hRL3.at_ hx3; have fK3 := hRL3.own.frozenAt j; have hne3 : ¬ nb = g3 := hRL3.ne; have hne3' : ¬ g3 = nb := fun e => hne3 e.symm; clear hRL3 hT3 hg3 tok1 hown3 hb3)))
  go_ret
  have hR := HRL3.out.put (j := j) v (by rw [← HEL.out]; exact hj)
  refine ⟨rfl, _, hR.box, ?_, ?_⟩
  · have ho := hR.own
    rcases ho.2 with ⟨h0, -⟩ | ⟨g', cap, cur, e1, hb, hh, h1, h2⟩
    · cases h0
    · cases e1
      exact ⟨ho.1, .inr ⟨g3, c3, cur, rfl, HG3.out, hh, h1, h2⟩⟩
  · exact HT3.out.trans (S' := fun i => i = g3) ((Turn.refl (fun i => i = g3) _).set (p := ⟨g3, j, none⟩) rfl _) fun i hi e => by
      have e : i = g3 := e
      have := HG3.out
      omega
/-- what the document's Set says -/
def setP (xs : List Int) (i v : Int) : Int := if fitsB v = false then 1 else if ¬ (0 ≤ i ∧ i < (xs.length : Int)) then 4 else 0
set_option maxHeartbeats 4000000 in
set_option maxRecDepth 100000 in
theorem setR_bad (R : RL w nb g c xs) (hn : xs.length ≤ 1000) (i v : Int) (he : ¬ setP xs i v = 0) : Calls Tryz.prog 50 #[.pointer (some ⟨nb, 0, none⟩), .int .i64 i, .int .i64 v] w fun e w' => e = .returned (.int .i64 (setP xs i v)) ∧ Q w w' := by
  have HFT := hide (fits_any v)
  have HKK : Hid (∀ W, Q w W → W.cell? ⟨nb, 0, none⟩ = some (.slice (some ⟨g, 0, none⟩) xs.length c) ∧ nb < W.heap.size) := fun W hq => ⟨(R.q hq).k.1, (R.q hq).k.2.2⟩
  obtain ⟨len, el⟩ : ∃ len, len = xs.length := ⟨_, rfl⟩
  unfold setP at he ⊢
  rw [← el] at hn he HKK ⊢
  have hli : (len : Int) ≤ 1000 := by omega
  clear R el
  cases hf : fitsB v
  · rw [if_pos rfl]
    rw [hf] at HFT
    have HFT : Hid (∀ W, Calls Tryz.prog 68 #[.int .i64 v] W fun e w' => e = .returned (.bool false) ∧ Q W w') := HFT
    clear he hf
    go_enter Tryz.func50, Tryz.ntmps50
    go_wp2_with (go_at_call 68; refine (HFT.out _).mono ?_; rintro e w1 ⟨rfl, hq1⟩)
    go_ret
    exact ⟨rfl, hq1⟩
  · rw [hf] at HFT
    have HFT : Hid (∀ W, Calls Tryz.prog 68 #[.int .i64 v] W fun e w' => e = .returned (.bool true) ∧ Q W w') := HFT
    rw [if_neg (by decide)]
    rw [hf, if_neg (by decide)] at he
    clear hf
    have hi : ¬ (0 ≤ i ∧ i < (len : Int)) := by
      refine fun h => he ?_
      rw [if_neg (by omega)]
    rw [if_pos hi]
    have hd : decide (i < 0) = true ∨ (decide (i < 0) = false ∧ decide ((len : Int) ≤ i) = true) := by
      by_cases h0 : i < 0
      · exact .inl (by simpa using h0)
      · exact .inr ⟨by simpa using h0, by simp; omega⟩
    clear hi he
    rcases hd with hd | ⟨hd, hd2⟩
    · go_enter Tryz.func50, Tryz.ntmps50
      go_wp2_with (go_at_call 68; refine (HFT.out _).mono ?_; rintro e w1 ⟨rfl, hq1⟩; obtain ⟨k0, hl⟩ := HKK.out _ hq1)
      go_ret
      exact ⟨rfl, hq1⟩
    · go_enter Tryz.func50, Tryz.ntmps50
      go_wp2_with (go_at_call 68; refine (HFT.out _).mono ?_; rintro e w1 ⟨rfl, hq1⟩; obtain ⟨k0, hl⟩ := HKK.out _ hq1)
      go_ret
      exact ⟨rfl, hq1⟩
end
end Go.Proofs.YtdaklffbfadghaaGreat

namespace Go.Proofs.YtdaklffbfadghaaGreat
open Go.RowKit HP
set_option linter.unusedVariables false
set_option linter.unusedSimpArgs false
def isOwnI (B n : Nat) (xs : List Value) (v : Value) (W : World) : Prop := W.ownsRow B 3 1 v n xs
theorem mono_ownI (B n : Nat) (xs : List Value) : Ri.Mono (isOwnI B n xs) := fun _ _ _ h hq => own_q h hq
def isLit (B : Nat) (v : Value) (W : World) : Prop := ∃ b, v = .slice b 0 0 ∧ W.ownsRow B 3 1 (.slice b 0 0) 0 []
theorem mono_lit (B : Nat) : Ri.Mono (isLit B) := fun _ _ _ ⟨b, e, h⟩ hq => ⟨b, e, own_q h hq⟩
section
variable {P : Program} {o : Oper} {A : Act} {w : World}
theorem run_addI {x y : Operand} {t t' : TypeId} {p u : Int} (ho : o.op = .binOp .add t x y t') (hx : A.eval x = .int .i64 p) (hy : A.eval y = .int .i64 u) (hu : P.underlying t = some (.int .i64)) (h0 : -9223372036854775808 ≤ p + u) (h1 : p + u ≤ 9223372036854775807) : (execOp A.eval o).run P w = .ok (.value (.int .i64 (p + u))) w := by
  have e : IntKind.i64.wrap (p + u) = p + u := by rw [IntKind.wrap_i64]; omega
  unfold execOp
  simp only [ho, hx, hy]
  simp [go_sem, e]
theorem run_cutlo {x lo : Operand} {t e : TypeId} {b n c k : Nat} (ho : o.op = .slice t x (some lo) none none) (hx : A.eval x = .slice (some ⟨b, 0, none⟩) n c) (hh : A.eval lo = .int .i64 (k : Nat)) (hu : P.underlying t = some (.slice e)) (hs : (P.info? e).map (·.size) = some 1) (hk : k ≤ n) :
    (execOp A.eval o).run P w = .ok (.value (.slice (some (if c = k then ⟨b, 0, none⟩ else ⟨b, k, none⟩)) (n - k) (c - k))) w := by
  have hu' : P.underlying t = some (.slice (P.elem t)) := by
    have : P.elem t = e := by unfold Program.elem; simp [hu]
    rw [this]; exact hu
  have he : P.elem t = e := by unfold Program.elem; simp [hu]
  have hsz : (sizeOf e).run P w = .ok 1 w := by
    cases hq : P.info? e with
    | none => simp [hq] at hs
    | some i => simp [hq] at hs; simp [sizeOf, typeInfo, hq, hs]
  unfold execOp
  simp only [ho, hx, Option.map_none, Option.map_some, hh]
  simp [run_sliceAt_slice _ _ _ _ _ _ hu', run_slice_l (P := P) w t _ n c hu' .i64 (k : Int) (by omega) (by omega), he, hsz, sliced]
  split
  · rfl
  · simp [addr_add]
end
section
variable {w W : World} {nb g c : Nat} {xs : List Int}
set_option maxHeartbeats 4000000 in
set_option maxRecDepth 100000 in
theorem removeR_ok (R : RL w nb g c xs) (hn : xs.length ≤ 1000) (j : Nat) {v : Int} (hv : xs[j]? = some v) : Calls Tryz.prog 20 #[.pointer (some ⟨nb, 0, none⟩), .int .i64 j] w fun e w' => e = .returned (.tuple #[.int .i64 v, .int .i64 0]) ∧ RefOk w nb (delAt xs j 1) w' := by
  have hj := (List.getElem?_eq_some_iff.1 hv).1
  have HGT : Hid (Calls Tryz.prog 48 #[.pointer (some ⟨nb, 0, none⟩), .int .i64 j] w fun e w' => e = .returned (.tuple #[.int .i64 v, .int .i64 0]) ∧ Q w w') := by
    refine (getR_any R hn j).mono ?_
    rintro e w' ⟨v2, err, he, hq, (⟨h1, -, -⟩ | ⟨h1, h2, h3⟩)⟩
    · omega
    · rw [Int.toNat_natCast, hv] at h2
      obtain rfl := Option.some.inj h2
      subst h3
      exact ⟨he, hq⟩
  obtain ⟨hc1, hc2, hgl⟩ := R.cap
  have HKK : Hid (∀ W, Q w W → W.cell? ⟨nb, 0, none⟩ = some (.slice (some ⟨g, 0, none⟩) xs.length c) ∧ W.frozen? ⟨nb, 0, none⟩ = false ∧ nb < W.heap.size) := fun W hq => (R.q hq).k
  have HRD : Hid (∀ W, Q w W → Rd W W.heap.size (some ⟨g, 0, none⟩) ((intsV xs).take j)) := fun W hq => (R.q hq).rd.take j
  have hlen : (intsV xs).length = xs.length := by unfold intsV; rw [List.length_map]
  have HRD2 : Hid (∀ W, Q w W → Rd W W.heap.size (some (if c = j + 1 then ⟨g, 0, none⟩ else ⟨g, j + 1, none⟩)) ((intsV xs).drop (j + 1))) := fun W hq => by
    split
    · have h0 : (intsV xs).drop (j + 1) = [] := List.eq_nil_of_length_eq_zero (by rw [List.length_drop]; omega)
      rw [h0]
      exact Rd.nil _ _ _
    · have := (R.q hq).rd.dropAt (j + 1)
      simpa using this
  have HR := hide R
  have HE : Hid ((intsV xs).take j ++ (intsV xs).drop (j + 1) = intsV (delAt xs j 1)) := by
    unfold intsV delAt
    rw [List.map_append, List.map_take, List.map_drop]
    exact rfl
  obtain ⟨len, el⟩ : ∃ len, len = xs.length := ⟨_, rfl⟩
  have HDL : Hid ((delAt xs j 1).length = len - 1) := by show (delAt xs j 1).length = len - 1; rw [delAt_len _ _ _ (by omega), el]
  rw [← el] at hj hc1 HKK hlen hn
  have hli : (len : Int) ≤ 1000 := by omega
  have hjl : (j : Int) < (len : Int) := by omega
  have HT1 : Hid (((intsV xs).take j).length = j * 1) := by show ((intsV xs).take j).length = j * 1; rw [List.length_take]; omega
  have HT2 : Hid (((intsV xs).drop (j + 1)).length = (len - (j + 1)) * 1) := by show ((intsV xs).drop (j + 1)).length = _; rw [List.length_drop]; omega
  have HC1 : Hid (∀ u ∈ (intsV xs).take j, u.oneCell' = true) := fun u hu => intsV_cell xs u (List.mem_of_mem_take hu)
  have HC2 : Hid (∀ u ∈ (intsV xs).drop (j + 1), u.oneCell' = true) := fun u hu => intsV_cell xs u (List.mem_of_mem_drop hu)
  clear hv R el hlen
  go_enter Tryz.func20, Tryz.ntmps20
  go_wp2_with (go_at_call 48; refine HGT.out.mono ?_; rintro e w1 ⟨rfl, hq1⟩; have HQ1 := hide hq1; clear hq1)
  refine Ri.called_last 16 [0, 17, 18] (Ri.phi [Ri.isV (.pointer (some ⟨nb, 0, none⟩)), isLit w.heap.size, Ri.isV (.pointer (some ⟨nb, 0, none⟩)), Ri.isV (.pointer (some ⟨nb, 0, none⟩)), Ri.isV (.pointer (some ⟨nb, 0, none⟩)), Ri.isV (.slice (some ⟨g, 0, none⟩) len c), Ri.isV (.int .i64 (j : Int)), Ri.isV (.slice (some ⟨g, 0, none⟩) j c), isOwnI w.heap.size j ((intsV xs).take j), Ri.isV (.pointer (some ⟨nb, 0, none⟩)), Ri.isV (.pointer (some ⟨nb, 0, none⟩)), Ri.isV (.pointer (some ⟨nb, 0, none⟩)), Ri.isV (.slice (some ⟨g, 0, none⟩) len c), Ri.isV (.int .i64 (j : Int)), Ri.isV (.int .i64 ((j : Int) + 1)), Ri.isV (.slice (some (if c = j + 1 then ⟨g, 0, none⟩ else ⟨g, j + 1, none⟩)) (len - (j + 1)) (c - (j + 1))), fun _ _ => True, Ri.isV (.pointer (some ⟨nb, 0, none⟩)), Ri.isV (.pointer (some ⟨nb, 0, none⟩))]) (fun v W => W.ownsRow w.heap.size 3 1 v (len - 1) (intsV (delAt xs j 1)) ∧ Q w W) (by kernel_rfl) (by kernel_rfl) rfl (by kernel_rfl) rfl (by decide) (by kernel_rfl) (Ri.phi_mono ?_) ?_ ?_ ?_
  · exact ⟨Ri.mono_isV _, mono_lit _, Ri.mono_isV _, Ri.mono_isV _, Ri.mono_isV _, Ri.mono_isV _, Ri.mono_isV _, Ri.mono_isV _, mono_ownI _ _ _, Ri.mono_isV _, Ri.mono_isV _, Ri.mono_isV _, Ri.mono_isV _, Ri.mono_isV _, Ri.mono_isV _, Ri.mono_isV _, fun _ _ _ h _ => h, Ri.mono_isV _, Ri.mono_isV _, trivial⟩
  · intro i v w1 w2 hk hv
    match i, hk, hv with
    | 0, _, hv => exact hv
    | 1, hk, _ => exact absurd hk (by decide)
    | 2, hk, _ => exact absurd hk (by decide)
    | 3, hk, _ => exact absurd hk (by decide)
    | 4, hk, _ => exact absurd hk (by decide)
    | 5, hk, _ => exact absurd hk (by decide)
    | 6, hk, _ => exact absurd hk (by decide)
    | 7, hk, _ => exact absurd hk (by decide)
    | 8, hk, _ => exact absurd hk (by decide)
    | 9, hk, _ => exact absurd hk (by decide)
    | 10, hk, _ => exact absurd hk (by decide)
    | 11, hk, _ => exact absurd hk (by decide)
    | 12, hk, _ => exact absurd hk (by decide)
    | 13, hk, _ => exact absurd hk (by decide)
    | 14, hk, _ => exact absurd hk (by decide)
    | 15, hk, _ => exact absurd hk (by decide)
    | 16, hk, _ => exact absurd hk (by decide)
    | 17, _, hv => exact hv
    | 18, _, hv => exact hv
    | i + 19, hk, _ => exact absurd hk (by unfold Ri.kindOf; rw [if_neg (by omega), if_neg (by first | (simp; done) | (simp; omega))]; decide)
  · refine Ri.All.cons ?_ (Ri.All.cons ?_ (Ri.All.cons ?_ (Ri.All.cons ?_ (Ri.All.cons ?_ (Ri.All.cons ?_ (Ri.All.cons ?_ (Ri.All.cons ?_ (Ri.All.cons ?_ (Ri.All.cons ?_ (Ri.All.cons ?_ (Ri.All.cons ?_ (Ri.All.cons ?_ (Ri.All.cons ?_ (Ri.All.cons ?_ (Ri.All.cons ?_ (Ri.All.cons ?_ (Ri.All.cons ?_ (Ri.All.cons ?_ (Ri.All.nil)))))))))))))))))))
    · refine Ri.StepK.p (by decide) ⟨rfl, fun f W hf A hA hB => ?_⟩
      have e1 := (hB 0 (by kernel_rfl)).trans (show _ = .pointer (some ⟨nb, 0, none⟩) by simp [Act.eval])
      exact Ri.wp_pure _ (Ri.run_mv rfl e1) rfl
    · refine Ri.StepK.g (by decide) ⟨rfl, fun f W hq hf A hA hB hO => ?_⟩
      exact Ri.wp_lit0 El_int rfl ⟨_, rfl, own_lit0 W _ _ _ _ rfl (HQ1.out.trans ((Q.refl w1).drew.trans hq)).size⟩
    · refine Ri.StepK.g (by decide) ⟨rfl, fun f W hq hf A hA hB hO => ?_⟩
      have e1 := (hB 0 (by kernel_rfl)).trans (show _ = .pointer (some ⟨nb, 0, none⟩) by simp [Act.eval])
      exact Ri.wp_value _ (Ri.run_mv rfl e1) rfl
    · refine Ri.StepK.g (by decide) ⟨rfl, fun f W hq hf A hA hB hO => ?_⟩
      have e1 := (hA 18 2 (by kernel_rfl) (by simp)).trans (show f 2 = _ from hf 2 (by kernel_rfl))
      exact Ri.wp_value _ (Ri.run_nil rfl e1) rfl
    · refine Ri.StepK.g (by decide) ⟨rfl, fun f W hq hf A hA hB hO => ?_⟩
      have e1 := (hA 19 3 (by kernel_rfl) (by simp)).trans (show f 3 = _ from hf 3 (by kernel_rfl))
      exact Ri.wp_value _ (Ri.run_fld (f := _) rfl e1 Tryz.underlying47 rfl (sz := 0) (by kernel_rfl)) rfl
    · refine Ri.StepK.g (by decide) ⟨rfl, fun f W hq hf A hA hB hO => ?_⟩
      have e1 := (hA 20 4 (by kernel_rfl) (by simp)).trans (show f 4 = _ from hf 4 (by kernel_rfl))
      exact Ri.wp_value _ (Ri.run_ld1 rfl e1 Tryz.underlying45 rfl ((HKK.out _ (HQ1.out.trans ((Q.refl w1).drew.trans hq))).1)) rfl
    · refine Ri.StepK.g (by decide) ⟨rfl, fun f W hq hf A hA hB hO => ?_⟩
      have e1 := (hB 1 (by kernel_rfl)).trans (show _ = .int .i64 (j : Int) by simp [Act.eval])
      exact Ri.wp_value _ (Ri.run_mv rfl e1) rfl
    · refine Ri.StepK.g (by decide) ⟨rfl, fun f W hq hf A hA hB hO => ?_⟩
      have e1 := (hA 21 5 (by kernel_rfl) (by simp)).trans (show f 5 = _ from hf 5 (by kernel_rfl))
      have e2 := (hA 22 6 (by kernel_rfl) (by simp)).trans (show f 6 = _ from hf 6 (by kernel_rfl))
      exact Ri.wp_value _ (Ri.run_cut rfl e1 e2 Tryz.underlying45 (sz := 1) (by kernel_rfl) (by omega)) rfl
    · refine Ri.StepK.g (by decide) ⟨rfl, fun f W hq hf A hA hB hO => ?_⟩
      obtain ⟨b0, hb, hw⟩ : isLit w.heap.size (f 1) W := hf 1 (by kernel_rfl)
      have e1 := (hA 17 1 (by kernel_rfl) (by simp)).trans hb
      have e2 := (hA 23 7 (by kernel_rfl) (by simp)).trans (show f 7 = _ from hf 7 (by kernel_rfl))
      refine Ri.wp_append El_int _ _ rfl e1 e2 hw (fun h => by cases h) HT1.out (HRD.out _ (HQ1.out.trans ((Q.refl w1).drew.trans hq))) HC1.out (by omega) (HQ1.out.trans ((Q.refl w1).drew.trans hq)).size (fun v w3 h => h)
    · refine Ri.StepK.g (by decide) ⟨rfl, fun f W hq hf A hA hB hO => ?_⟩
      have e1 := (hB 0 (by kernel_rfl)).trans (show _ = .pointer (some ⟨nb, 0, none⟩) by simp [Act.eval])
      exact Ri.wp_value _ (Ri.run_mv rfl e1) rfl
    · refine Ri.StepK.g (by decide) ⟨rfl, fun f W hq hf A hA hB hO => ?_⟩
      have e1 := (hA 25 9 (by kernel_rfl) (by simp)).trans (show f 9 = _ from hf 9 (by kernel_rfl))
      exact Ri.wp_value _ (Ri.run_nil rfl e1) rfl
    · refine Ri.StepK.g (by decide) ⟨rfl, fun f W hq hf A hA hB hO => ?_⟩
      have e1 := (hA 26 10 (by kernel_rfl) (by simp)).trans (show f 10 = _ from hf 10 (by kernel_rfl))
      exact Ri.wp_value _ (Ri.run_fld (f := _) rfl e1 Tryz.underlying47 rfl (sz := 0) (by kernel_rfl)) rfl
    · refine Ri.StepK.g (by decide) ⟨rfl, fun f W hq hf A hA hB hO => ?_⟩
      have e1 := (hA 27 11 (by kernel_rfl) (by simp)).trans (show f 11 = _ from hf 11 (by kernel_rfl))
      exact Ri.wp_value _ (Ri.run_ld1 rfl e1 Tryz.underlying45 rfl ((HKK.out _ (HQ1.out.trans ((Q.refl w1).drew.trans hq))).1)) rfl
    · refine Ri.StepK.g (by decide) ⟨rfl, fun f W hq hf A hA hB hO => ?_⟩
      have e1 := (hB 1 (by kernel_rfl)).trans (show _ = .int .i64 (j : Int) by simp [Act.eval])
      exact Ri.wp_value _ (Ri.run_mv rfl e1) rfl
    · refine Ri.StepK.g (by decide) ⟨rfl, fun f W hq hf A hA hB hO => ?_⟩
      have e1 := (hA 29 13 (by kernel_rfl) (by simp)).trans (show f 13 = _ from hf 13 (by kernel_rfl))
      have e2 : A.eval (.const (.int .i64 1)) = .int .i64 1 := rfl
      exact Ri.wp_value _ (run_addI rfl e1 e2 Tryz.underlying3 (by omega) (by omega)) rfl
    · refine Ri.StepK.g (by decide) ⟨rfl, fun f W hq hf A hA hB hO => ?_⟩
      have e1 := (hA 28 12 (by kernel_rfl) (by simp)).trans (show f 12 = _ from hf 12 (by kernel_rfl))
      have e2 := (hA 30 14 (by kernel_rfl) (by simp)).trans (show f 14 = _ from hf 14 (by kernel_rfl))
      exact Ri.wp_value _ (run_cutlo rfl e1 (e2.trans (by push_cast; rfl)) Tryz.underlying45 (by kernel_rfl) (by omega)) rfl
    · refine Ri.StepK.w (by decide) ⟨rfl, fun f W hq hf A hA hB => ?_⟩
      have ho8 : W.ownsRow w.heap.size 3 1 (f 8) j ((intsV xs).take j) := hf 8 (by kernel_rfl)
      have e1 := hA 24 8 (by kernel_rfl) (by simp)
      have e2 := (hA 31 15 (by kernel_rfl) (by simp)).trans (show f 15 = _ from hf 15 (by kernel_rfl))
      have hqW : Q w W := HQ1.out.trans ((Q.refl w1).drew.trans hq)
      refine Ri.wp_appW El_int _ _ rfl e1 ho8 e2 HT2.out (HRD2.out _ hqW) HC2.out (by omega) hqW.size (fun v2 w3 h1 h2 => ?_)
      rw [HE.out, show j + (len - (j + 1)) = len - 1 by omega] at h1
      exact ⟨h1, q_below hqW (below_own ho8 h2 hqW.size) (Nat.le_refl _)⟩
    · refine Ri.StepK.p (by decide) ⟨rfl, fun f W hf A hA hB => ?_⟩
      have e1 := (hA 16 0 (by kernel_rfl) (by simp)).trans (show f 0 = _ from hf 0 (by kernel_rfl) (by decide))
      exact Ri.wp_pure _ (Ri.run_nil rfl e1) rfl
    · refine Ri.StepK.p (by decide) ⟨rfl, fun f W hf A hA hB => ?_⟩
      have e1 := (hA 33 17 (by kernel_rfl) (by simp)).trans (show f 17 = _ from hf 17 (by kernel_rfl) (by decide))
      exact Ri.wp_pure _ (Ri.run_fld (f := _) rfl e1 Tryz.underlying47 rfl (sz := 0) (by kernel_rfl)) rfl
  · intro f W hP hpu A hAe hA hB
    have e1 := (hA 34 18 (by kernel_rfl) (by simp)).trans (show f 18 = _ from hpu 18 (by simp) (by decide))
    have e2 := hA 32 16 (by kernel_rfl) (by simp)
    obtain ⟨u, hu⟩ : ∃ u, u = f 16 := ⟨_, rfl⟩
    rw [← hu] at hP e2
    obtain ⟨ho, hq2⟩ := hP
    obtain ⟨k0, f0, hl⟩ := HKK.out _ hq2
    obtain ⟨A2, c2, eu, -⟩ := own_form ho
    subst eu
    have ho2 := ho
    rw [← HDL.out] at ho2
    have hF := HR.out.laidV hq2 ho2
    rw [HDL.out] at hF
    have HF := hide hF
    refine Ri.wp_store rfl e1 e2 rfl (by kernel_rfl) rfl rfl k0 f0 ?_
    rw [hAe]
    simp only [Ri.acts, Act.put, List.setIfInBounds_toArray, List.set_cons_zero, List.set_cons_succ]
    clear hpu hA hB hAe e1 e2 ho ho2 hq2 hF k0 f0 hl hu
    go_wp2_with fail
    go_ret2
    exact ⟨rfl, HF.out⟩
set_option maxHeartbeats 4000000 in
set_option maxRecDepth 100000 in
theorem removeR_bad (R : RL w nb g c xs) (hn : xs.length ≤ 1000) (i : Int) (hi : ¬ (0 ≤ i ∧ i < (xs.length : Int))) : Calls Tryz.prog 20 #[.pointer (some ⟨nb, 0, none⟩), .int .i64 i] w fun e w' => e = .returned (.tuple #[.int .i64 0, .int .i64 4]) ∧ Q w w' := by
  have HGT : Hid (Calls Tryz.prog 48 #[.pointer (some ⟨nb, 0, none⟩), .int .i64 i] w fun e w' => e = .returned (.tuple #[.int .i64 0, .int .i64 4]) ∧ Q w w') := by
    refine (getR_any R hn i).mono ?_
    rintro e w' ⟨v2, err, he, hq, (⟨h1, h2, h3⟩ | ⟨h1, h2, h3⟩)⟩
    · subst h2
      subst h3
      exact ⟨he, hq⟩
    · exact absurd h1 hi
  clear R hn hi
  go_enter Tryz.func20, Tryz.ntmps20
  go_wp2_with (go_at_call 48; refine HGT.out.mono ?_; rintro e w1 ⟨rfl, hq1⟩)
  go_ret2
  exact ⟨rfl, hq1⟩
end
end Go.Proofs.YtdaklffbfadghaaGreat
