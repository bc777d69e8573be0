/- The document's list: Fits, Get, Insert. The document's list: Insert that succeeds, Set. Remove of the document's list. The ground of a law: how it lies; left, next, kept. The ground of a law: next. The ground of a law: left. The ground of a law: kept. The ground of a law: begin. The ground of a law: the walk of begin. A heap that is sure, with a list, then with a map: the acts of known. A heap that is sure, with a map: the acts of known. known of the lists: the walk. What is closed, or nil, answers: listClosed, mapClosed, queueClosed, and the law ListNils. The state of a law on lists, maps and queues: what is known of heap and ground (plain), and how heap, rows and ground lie beside each other and beside other blocks. The acts of the law on lists: the list's and the document's side by side. The law ListPlays, walked: up to the loop. A region that draws its order and makes new memory, with a last operation: values of different groups lie in different blocks. Conditions: as each theorem says. -/
import Derived.Test.YtdaklffbfadghaaGreatTm10
import Derived.Test.YtdaklffbfadghaaGreatTm2
import Derived.Deep.CutRange
import Derived.Deep.DeepCutAuto
import Derived.Deep.CutBlock
import Derived.Deep.LoopGhost
namespace Go.Proofs.YtdaklffbfadghaaGreat
open Go.RowKit HP
set_option linter.unusedVariables false
set_option linter.unusedSimpArgs false
set_option maxHeartbeats 4000000 in
set_option maxRecDepth 100000 in
theorem fits_any (v : Int) (w : World) : Calls Tryz.prog 68 #[.int .i64 v] w fun e w' => e = .returned (.bool (fitsB v)) ∧ Q w w' := by
  have hf : fitsB v = (decide (-2147483648 ≤ v) && decide (v ≤ 2147483647)) := by
    unfold fitsB
    by_cases h1 : -2147483648 ≤ v
    · by_cases h2 : v ≤ 2147483647
      · simp [h1, h2] <;> omega
      · simp [h1, h2] <;> omega
    · simp [h1] <;> omega
  rw [hf]
  clear hf
  cases h1 : decide (-2147483648 ≤ v)
  · go_enter Tryz.func68, Tryz.ntmps68
    go_wp2_with fail
    go_ret
    exact ⟨rfl, Q.refl _⟩
  · cases h2 : decide (v ≤ 2147483647)
    · go_enter Tryz.func68, Tryz.ntmps68
      go_wp2_with fail
      go_ret
      exact ⟨rfl, Q.refl _⟩
    · go_enter Tryz.func68, Tryz.ntmps68
      go_wp2_with fail
      go_ret
      exact ⟨rfl, Q.refl _⟩
/-- a list of the document at its place -/
structure RL (W : World) (nb g c : Nat) (xs : List Int) : Prop where
  box : W.heap[nb]? = some (.cells #[.slice (some ⟨g, 0, none⟩) xs.length c] 47 (0, 0))
  own : W.ownsRow 0 3 1 (.slice (some ⟨g, 0, none⟩) xs.length c) xs.length (intsV xs)
section
variable {w W : World} {nb g c : Nat} {xs : List Int}
theorem RL.q (R : RL w nb g c xs) (hq : Q w W) : RL W nb g c xs := ⟨(hq.below.block _ (blk_lt R.box)).trans R.box, own_q R.own hq⟩
theorem RL.k (R : RL w nb g c xs) : w.cell? ⟨nb, 0, none⟩ = some (.slice (some ⟨g, 0, none⟩) xs.length c) ∧ w.frozen? ⟨nb, 0, none⟩ = false ∧ nb < w.heap.size := ⟨by rw [cell_of_row _ _ _ _ _ _ R.box]; rfl, frozen_of_row _ _ _ _ _ R.box, blk_lt R.box⟩
theorem RL.cap (R : RL w nb g c xs) : xs.length ≤ c ∧ c ≤ maxLen ∧ g < w.heap.size := by
  rcases R.own.2 with ⟨h0, -⟩ | ⟨g', cap, cur, e1, hb, hh, h1, h2, -⟩
  · cases h0
  · cases e1
    exact ⟨h1, h2, blk_lt hh⟩
theorem RL.ne (R : RL w nb g c xs) : nb ≠ g := fun e => by
  obtain ⟨cs, hc⟩ := own_blk R.own (g := g) rfl
  have hb := R.box
  rw [e, hc] at hb
  injection hb with hb
  injection hb with _ h2 _
  exact absurd h2 (by decide)
theorem RL.rd (R : RL w nb g c xs) : Rd w w.heap.size (some ⟨g, 0, none⟩) (intsV xs) := own_rd R.own
theorem intsV_cell (l : List Int) : ∀ u ∈ intsV l, u.oneCell' = true := fun u hu => by
  obtain ⟨x, _, rfl⟩ := List.mem_map.1 hu
  rfl
theorem RL.at_ (R : RL w nb g c xs) {i : Nat} {x : Int} (h : xs[i]? = some x) : w.cell? ⟨g, i, none⟩ = some (.int .i64 x) := by
  obtain ⟨hi, e⟩ := List.getElem?_eq_some_iff.1 h
  rw [R.own.cellAt i (by omega)]
  unfold intsV
  rw [List.getElem?_map, h]
  rfl
set_option maxHeartbeats 4000000 in
set_option maxRecDepth 100000 in
theorem getR_any (R : RL w nb g c xs) (hn : xs.length ≤ 1000) (i : Int) : Calls Tryz.prog 48 #[.pointer (some ⟨nb, 0, none⟩), .int .i64 i] w fun e w' => ∃ v err, e = .returned (.tuple #[.int .i64 v, .int .i64 err]) ∧ Q w w' ∧ ((¬ (0 ≤ i ∧ i < (xs.length : Int)) ∧ v = 0 ∧ err = 4) ∨ ((0 ≤ i ∧ i < (xs.length : Int)) ∧ xs[i.toNat]? = some v ∧ err = 0)) := by
  obtain ⟨k0, f0, hl⟩ := R.k
  have HR := hide R
  obtain ⟨len, el⟩ : ∃ len, len = xs.length := ⟨_, rfl⟩
  rw [← el] at k0 hn ⊢
  have hli : (len : Int) ≤ 1000 := by omega
  have HEL := hide el
  clear R el
  by_cases hi : 0 ≤ i ∧ i < (len : Int)
  · have HII := hide hi
    have hd1 : decide (i < 0) = false := by simp; omega
    have hd2 : decide ((len : Int) ≤ i) = false := by simp; omega
    obtain ⟨j, rfl⟩ : ∃ j : Nat, i = (j : Int) := ⟨i.toNat, by omega⟩
    have hj : j < len := by omega
    have hjl : (j : Int) < (len : Int) := by omega
    obtain ⟨v, hv⟩ : ∃ v, xs[j]? = some v := ⟨xs[j]'(by rw [← HEL.out]; exact hj), List.getElem?_eq_getElem _⟩
    have HV := hide hv
    have cK := HR.out.at_ hv
    clear hi hv
    go_enter Tryz.func48, Tryz.ntmps48
    go_wp2_with fail
    go_ret2
    exact ⟨v, 0, rfl, Q.refl _, .inr ⟨HII.out, HV.out, rfl⟩⟩
  · have HNI := hide hi
    have hd : decide (i < 0) = true ∨ (decide (i < 0) = false ∧ decide ((len : Int) ≤ i) = true) := by
      by_cases h0 : i < 0
      · exact .inl (by simpa using h0)
      · exact .inr ⟨by simpa using h0, by simp; omega⟩
    clear hi
    rcases hd with hd | ⟨hd, hd2⟩
    · go_enter Tryz.func48, Tryz.ntmps48
      go_wp2_with fail
      go_ret2
      exact ⟨0, 4, rfl, Q.refl _, .inl ⟨HNI.out, rfl, rfl⟩⟩
    · go_enter Tryz.func48, Tryz.ntmps48
      go_wp2_with fail
      go_ret2
      exact ⟨0, 4, rfl, Q.refl _, .inl ⟨HNI.out, rfl, rfl⟩⟩
/-- what the document's Insert says -/
def insP (xs : List Int) (i v : Int) : Int := if fitsB v = false then 1 else if ¬ (0 ≤ i ∧ i ≤ (xs.length : Int)) then 4 else if 64 ≤ xs.length then 3 else 0
set_option maxHeartbeats 4000000 in
set_option maxRecDepth 100000 in
theorem insertR_bad (R : RL w nb g c xs) (hn : xs.length ≤ 1000) (i v : Int) (he : ¬ insP xs i v = 0) : Calls Tryz.prog 18 #[.pointer (some ⟨nb, 0, none⟩), .int .i64 i, .int .i64 v] w fun e w' => e = .returned (.int .i64 (insP xs i v)) ∧ Q w w' := by
  obtain ⟨k0, f0, hl⟩ := R.k
  have HFT := hide (fits_any v)
  have HKK : Hid (∀ W, Q w W → W.cell? ⟨nb, 0, none⟩ = some (.slice (some ⟨g, 0, none⟩) xs.length c) ∧ nb < W.heap.size) := fun W hq => ⟨(R.q hq).k.1, (R.q hq).k.2.2⟩
  obtain ⟨len, el⟩ : ∃ len, len = xs.length := ⟨_, rfl⟩
  unfold insP at he ⊢
  rw [← el] at hn he HKK ⊢
  have hli : (len : Int) ≤ 1000 := by omega
  clear R el k0 f0 hl
  cases hf : fitsB v
  · rw [if_pos rfl]
    rw [hf] at HFT
    have HFT : Hid (∀ W, Calls Tryz.prog 68 #[.int .i64 v] W fun e w' => e = .returned (.bool false) ∧ Q W w') := HFT
    clear he hf
    go_enter Tryz.func18, Tryz.ntmps18
    go_wp2_with (go_at_call 68; refine (HFT.out _).mono ?_; rintro e w1 ⟨rfl, hq1⟩)
    go_ret
    exact ⟨rfl, hq1⟩
  · rw [hf] at HFT
    have HFT : Hid (∀ W, Calls Tryz.prog 68 #[.int .i64 v] W fun e w' => e = .returned (.bool true) ∧ Q W w') := HFT
    rw [if_neg (by decide)]
    rw [hf, if_neg (by decide)] at he
    clear hf
    by_cases hi : 0 ≤ i ∧ i ≤ (len : Int)
    · rw [if_neg (by omega)] at he ⊢
      have h64 : 64 ≤ len := by
        refine Classical.byContradiction fun h => he ?_
        rw [if_neg h]
      rw [if_pos h64]
      have hd1 : decide (i < 0) = false := by simp; omega
      have hd2 : decide ((len : Int) < i) = false := by simp; omega
      have hd3 : decide ((64 : Int) ≤ (len : Int)) = true := by simp; omega
      clear he hi h64
      go_enter Tryz.func18, Tryz.ntmps18
      go_wp2_with (go_at_call 68; refine (HFT.out _).mono ?_; rintro e w1 ⟨rfl, hq1⟩; obtain ⟨k0, hl⟩ := HKK.out _ hq1)
      go_ret
      exact ⟨rfl, hq1⟩
    · rw [if_pos hi]
      have hd : decide (i < 0) = true ∨ (decide (i < 0) = false ∧ decide ((len : Int) < i) = true) := by
        by_cases h0 : i < 0
        · exact .inl (by simpa using h0)
        · exact .inr ⟨by simpa using h0, by simp; omega⟩
      clear hi he
      rcases hd with hd | ⟨hd, hd2⟩
      · go_enter Tryz.func18, Tryz.ntmps18
        go_wp2_with (go_at_call 68; refine (HFT.out _).mono ?_; rintro e w1 ⟨rfl, hq1⟩; obtain ⟨k0, hl⟩ := HKK.out _ hq1)
        go_ret
        exact ⟨rfl, hq1⟩
      · go_enter Tryz.func18, Tryz.ntmps18
        go_wp2_with (go_at_call 68; refine (HFT.out _).mono ?_; rintro e w1 ⟨rfl, hq1⟩; obtain ⟨k0, hl⟩ := HKK.out _ hq1)
        go_ret
        exact ⟨rfl, hq1⟩
end
end Go.Proofs.YtdaklffbfadghaaGreat

namespace Go.Proofs.YtdaklffbfadghaaGreat
open Go.RowKit HP
set_option linter.unusedVariables false
set_option linter.unusedSimpArgs false
theorem insP_zero {xs : List Int} {i v : Int} (h : insP xs i v = 0) : fitsB v = true ∧ (0 ≤ i ∧ i ≤ (xs.length : Int)) ∧ xs.length < 64 := by
  unfold insP at h
  split at h
  · cases h
  · rename_i h1
    split at h
    · cases h
    · rename_i h2
      split at h
      · cases h
      · exact ⟨by simpa using h1, by omega, by omega⟩
def RefOk (w : World) (nb : Nat) (ys : List Int) (W : World) : Prop := ∃ v, W.heap[nb]? = some (.cells #[v] 47 (0, 0)) ∧ W.ownsRow w.heap.size 3 1 v ys.length (intsV ys) ∧ Turn (fun b => b = nb) w W
section
variable {w W : World} {nb g c : Nat} {xs : List Int}
/-- behind the store of a new row -/
theorem RL.laid (R : RL w nb g c xs) {W : World} (hq : Q w W) {v : Value} {ys : List Int} (ho : W.ownsRow w.heap.size 3 1 v ys.length (intsV ys)) (hv : v ≠ .slice none 0 0) : ∃ g' c', v = .slice (some ⟨g', 0, none⟩) ys.length c' ∧ RL (W.setCell ⟨nb, 0, none⟩ v) nb g' c' ys ∧ Turn (fun b => b = nb) w (W.setCell ⟨nb, 0, none⟩ v) ∧ w.heap.size ≤ g' := by
  have hl := blk_lt R.box
  rcases ho.2 with ⟨e, -⟩ | ⟨g', cap, cur, e, hb, hh, h1, h2, h3, h4⟩
  · exact absurd e hv
  · subst e
    have hne : g' ≠ nb := by omega
    refine ⟨g', cap, rfl, ⟨?_, ?_⟩, ?_, hb⟩
    · have := heap_setCell_same W nb 0 _ _ (.slice (some ⟨g', 0, none⟩) ys.length cap) ((hq.below.block _ hl).trans R.box)
      rw [this]
      rfl
    · exact own_same (own_low ho (Nat.zero_le _)) fun b hb' => by
        cases hb'
        exact heap_setCell_other _ _ _ _ hne
    · exact (Turn.of_q hq).set (S := fun b => b = nb) (p := ⟨nb, 0, none⟩) rfl _
theorem RL.laidV (R : RL w nb g c xs) {W : World} (hq : Q w W) {v : Value} {ys : List Int} (ho : W.ownsRow w.heap.size 3 1 v ys.length (intsV ys)) : RefOk w nb ys (W.setCell ⟨nb, 0, none⟩ v) := by
  have hl := blk_lt R.box
  refine ⟨v, ?_, own_same ho fun b hb' => heap_setCell_other _ _ _ _ fun e => ?_, (Turn.of_q hq).set (S := fun b => b = nb) (p := ⟨nb, 0, none⟩) rfl _⟩
  · have := heap_setCell_same W nb 0 _ _ v ((hq.below.block _ hl).trans R.box)
    rw [this]
    rfl
  · have h1 := (ho.lt b hb').1
    have e : b = nb := e
    omega
set_option maxHeartbeats 4000000 in
set_option maxRecDepth 100000 in
theorem insertR_ok (R : RL w nb g c xs) (i v : Int) (he : insP xs i v = 0) : Calls Tryz.prog 18 #[.pointer (some ⟨nb, 0, none⟩), .int .i64 i, .int .i64 v] w fun e w' => e = .returned (.int .i64 0) ∧ RefOk w nb (insAt xs i.toNat [v]) w' := by
  obtain ⟨hf, hi, h64⟩ := insP_zero he
  obtain ⟨j, rfl⟩ : ∃ j : Nat, i = (j : Int) := ⟨i.toNat, by omega⟩
  rw [Int.toNat_natCast]
  have HFT : Hid (∀ W, Calls Tryz.prog 68 #[.int .i64 v] W fun e w' => e = .returned (.bool true) ∧ Q W w') := fun W => by
    have := fits_any v W
    rw [hf] at this
    exact this
  obtain ⟨hc1, hc2, hgl⟩ := R.cap
  have HKK : Hid (∀ W, Q w W → W.cell? ⟨nb, 0, none⟩ = some (.slice (some ⟨g, 0, none⟩) xs.length c) ∧ W.frozen? ⟨nb, 0, none⟩ = false ∧ nb < W.heap.size) := fun W hq => (R.q hq).k
  have HRD : Hid (∀ W, Q w W → Rd W W.heap.size (some ⟨g, 0, none⟩) ((intsV xs).take j)) := fun W hq => (R.q hq).rd.take j
  have HRD2 : Hid (∀ W, Q w W → Rd W W.heap.size (some ⟨g, j, none⟩) ((intsV xs).drop j)) := fun W hq => by
    have := (R.q hq).rd.dropAt j
    simpa using this
  have HR := hide R
  have HE : Hid ((intsV xs).take j ++ [.int .i64 v] ++ (intsV xs).drop j = intsV (insAt xs j [v])) := by
    unfold intsV insAt
    rw [List.map_append, List.map_append, List.map_take, List.map_drop, List.append_assoc]
    rfl
  have hlen : (intsV xs).length = xs.length := by unfold intsV; rw [List.length_map]
  obtain ⟨len, el⟩ : ∃ len, len = xs.length := ⟨_, rfl⟩
  have HIL : Hid ((insAt xs j [v]).length = len + 1) := by show (insAt xs j [v]).length = len + 1; rw [insAt_len _ _ _ (by omega), el]; rfl
  rw [← el] at hi h64 hc1 HKK hlen
  have hjl : j ≤ len := by omega
  have hji : (j : Int) ≤ (len : Int) := by omega
  have hli : (len : Int) < 64 := by omega
  have hd1 : decide ((j : Int) < 0) = false := by simp
  have hd2 : decide ((len : Int) < (j : Int)) = false := by simp; omega
  have hd3 : decide ((64 : Int) ≤ (len : Int)) = false := by simp; omega
  have hjc : j ≤ c := by omega
  have HT1 : Hid (((intsV xs).take j).length = j * 1) := by show ((intsV xs).take j).length = j * 1; rw [List.length_take]; omega
  have HT2 : Hid (((intsV xs).drop j).length = (len - j) * 1) := by show ((intsV xs).drop j).length = (len - j) * 1; rw [List.length_drop]; omega
  have HC1 : Hid (∀ u ∈ (intsV xs).take j, u.oneCell' = true) := fun u hu => intsV_cell xs u (List.mem_of_mem_take hu)
  have HC2 : Hid (∀ u ∈ (intsV xs).drop j, u.oneCell' = true) := fun u hu => intsV_cell xs u (List.mem_of_mem_drop hu)
  clear he hf hi R el hlen
  by_cases hcj : c = j
  · have HRD3 : Hid (∀ W, Q w W → Rd W W.heap.size (some ⟨g, 0, none⟩) ((intsV xs).drop j)) := fun W hq => by
      have h0 : (intsV xs).drop j = [] := List.eq_nil_of_length_eq_zero (by rw [HT2.out]; omega)
      rw [h0]
      exact Rd.nil _ _ _
    clear HRD2
    have tok1 : True := trivial
    go_enter Tryz.func18, Tryz.ntmps18
    go_wp2_with (first
      | (go_at_call 68; refine (HFT.out _).mono ?_; rintro e w1 ⟨rfl, hq1⟩; obtain ⟨k0, f0, hl⟩ := HKK.out _ hq1)
      | (at_builtin; have _t := tok1; go_loud (refine wpList_apps rfl El_int _ _ rfl rfl (own_lit0 w1 w.heap.size _ 1 _ rfl hq1.size) rfl (fun h => by cases h) HT1.out (HRD.out _ (hq1.alloc _)) HC1.out ?_ ?_ ?_; (focus omega); (focus (simp; have := hq1.size; omega)); intro v3 w3 hown3 hb3; have hq3 := q_below (hq1.alloc _) hb3 (Nat.le_refl _); simp only [Nat.zero_add, List.nil_append] at hown3; obtain ⟨A3, c3, e3, -⟩ := own_form hown3; subst e3; clear tok1; have tok2 : True := trivial))
      | (at_builtin; have _t := tok2; go_loud (refine wpList_app1 rfl El_int _ _ rfl rfl hown3 rfl rfl rfl ?_ ?_ ?_ ?_; (focus (simp [Value.oneCell'])); (focus omega); (focus (exact hq3.size)); intro v4 w4 hown4 hb4; have hq4 := q_below hq3 hb4 (Nat.le_refl _); obtain ⟨k04, f04, hl4⟩ := HKK.out _ hq4; obtain ⟨A4, c4, e4, -⟩ := own_form hown4; subst e4; clear tok2; have tok3 : True := trivial))
      | (at_builtin; have _t := tok3; go_loud (refine wpList_apps rfl El_int _ _ rfl rfl hown4 rfl (fun h => by cases h) HT2.out (HRD3.out _ hq4) HC2.out ?_ ?_ ?_; (focus omega); (focus (exact hq4.size)); intro v5 w5 hown5 hb5; have hq5 := q_below hq4 hb5 (Nat.le_refl _); obtain ⟨k05, f05, hl5⟩ := HKK.out _ hq5; obtain ⟨A5, c5, e5, -⟩ := own_form hown5; subst e5; clear tok3)))
    go_ret
    have ho := hown5
    rw [HE.out, show j + 1 + (len - j) = (insAt xs j [v]).length by rw [HIL.out]; omega] at ho
    have hF := HR.out.laidV hq5 ho
    rw [show j + 1 + (len - j) = (insAt xs j [v]).length by rw [HIL.out]; omega]
    exact ⟨rfl, hF⟩
  · have tok1 : True := trivial
    go_enter Tryz.func18, Tryz.ntmps18
    go_wp2_with (first
      | (go_at_call 68; refine (HFT.out _).mono ?_; rintro e w1 ⟨rfl, hq1⟩; obtain ⟨k0, f0, hl⟩ := HKK.out _ hq1)
      | (at_builtin; have _t := tok1; go_loud (refine wpList_apps rfl El_int _ _ rfl rfl (own_lit0 w1 w.heap.size _ 1 _ rfl hq1.size) rfl (fun h => by cases h) HT1.out (HRD.out _ (hq1.alloc _)) HC1.out ?_ ?_ ?_; (focus omega); (focus (simp; have := hq1.size; omega)); intro v3 w3 hown3 hb3; have hq3 := q_below (hq1.alloc _) hb3 (Nat.le_refl _); simp only [Nat.zero_add, List.nil_append] at hown3; obtain ⟨A3, c3, e3, -⟩ := own_form hown3; subst e3; clear tok1; have tok2 : True := trivial))
      | (at_builtin; have _t := tok2; go_loud (refine wpList_app1 rfl El_int _ _ rfl rfl hown3 rfl rfl rfl ?_ ?_ ?_ ?_; (focus (simp [Value.oneCell'])); (focus omega); (focus (exact hq3.size)); intro v4 w4 hown4 hb4; have hq4 := q_below hq3 hb4 (Nat.le_refl _); obtain ⟨k04, f04, hl4⟩ := HKK.out _ hq4; obtain ⟨A4, c4, e4, -⟩ := own_form hown4; subst e4; clear tok2; have tok3 : True := trivial))
      | (at_builtin; have _t := tok3; go_loud (refine wpList_apps rfl El_int _ _ rfl rfl hown4 rfl (fun h => by cases h) HT2.out (HRD2.out _ hq4) HC2.out ?_ ?_ ?_; (focus omega); (focus (exact hq4.size)); intro v5 w5 hown5 hb5; have hq5 := q_below hq4 hb5 (Nat.le_refl _); obtain ⟨k05, f05, hl5⟩ := HKK.out _ hq5; obtain ⟨A5, c5, e5, -⟩ := own_form hown5; subst e5; clear tok3)))
    go_ret
    have ho := hown5
    rw [HE.out, show j + 1 + (len - j) = (insAt xs j [v]).length by rw [HIL.out]; omega] at ho
    have hF := HR.out.laidV hq5 ho
    rw [show j + 1 + (len - j) = (insAt xs j [v]).length by rw [HIL.out]; omega]
    exact ⟨rfl, hF⟩
theorem RL.put (R : RL w nb g c xs) {j : Nat} (v : Int) (hj : j < xs.length) : RL (w.setCell ⟨g, j, none⟩ (.int .i64 v)) nb g c (xs.set j v) := by
  have e : (intsV xs).set j (.int .i64 v) = intsV (xs.set j v) := by unfold intsV; rw [List.map_set]
  refine ⟨?_, ?_⟩
  · rw [heap_setCell_other _ _ _ _ R.ne, List.length_set]
    exact R.box
  · have := own_set R.own j (.int .i64 v)
    rw [e] at this
    rw [List.length_set]
    exact this
end
end Go.Proofs.YtdaklffbfadghaaGreat

namespace Go.Proofs.YtdaklffbfadghaaGreat
open Go.RowKit HP
set_option linter.unusedVariables false
set_option linter.unusedSimpArgs false
def isOwnI (B n : Nat) (xs : List Value) (v : Value) (W : World) : Prop := W.ownsRow B 3 1 v n xs
theorem mono_ownI (B n : Nat) (xs : List Value) : Ri.Mono (isOwnI B n xs) := fun _ _ _ h hq => own_q h hq
def isLit (B : Nat) (v : Value) (W : World) : Prop := ∃ b, v = .slice b 0 0 ∧ W.ownsRow B 3 1 (.slice b 0 0) 0 []
theorem mono_lit (B : Nat) : Ri.Mono (isLit B) := fun _ _ _ ⟨b, e, h⟩ hq => ⟨b, e, own_q h hq⟩
section
variable {P : Program} {o : Oper} {A : Act} {w : World}
theorem run_addI {x y : Operand} {t t' : TypeId} {p u : Int} (ho : o.op = .binOp .add t x y t') (hx : A.eval x = .int .i64 p) (hy : A.eval y = .int .i64 u) (hu : P.underlying t = some (.int .i64)) (h0 : -9223372036854775808 ≤ p + u) (h1 : p + u ≤ 9223372036854775807) : (execOp A.eval o).run P w = .ok (.value (.int .i64 (p + u))) w := by
  have e : IntKind.i64.wrap (p + u) = p + u := by rw [IntKind.wrap_i64]; omega
  unfold execOp
  simp only [ho, hx, hy]
  simp [go_sem, e]
theorem run_cutlo {x lo : Operand} {t e : TypeId} {b n c k : Nat} (ho : o.op = .slice t x (some lo) none none) (hx : A.eval x = .slice (some ⟨b, 0, none⟩) n c) (hh : A.eval lo = .int .i64 (k : Nat)) (hu : P.underlying t = some (.slice e)) (hs : (P.info? e).map (·.size) = some 1) (hk : k ≤ n) :
    (execOp A.eval o).run P w = .ok (.value (.slice (some (if c = k then ⟨b, 0, none⟩ else ⟨b, k, none⟩)) (n - k) (c - k))) w := by
  have hu' : P.underlying t = some (.slice (P.elem t)) := by
    have : P.elem t = e := by unfold Program.elem; simp [hu]
    rw [this]; exact hu
  have he : P.elem t = e := by unfold Program.elem; simp [hu]
  have hsz : (sizeOf e).run P w = .ok 1 w := by
    cases hq : P.info? e with
    | none => simp [hq] at hs
    | some i => simp [hq] at hs; simp [sizeOf, typeInfo, hq, hs]
  unfold execOp
  simp only [ho, hx, Option.map_none, Option.map_some, hh]
  simp [run_sliceAt_slice _ _ _ _ _ _ hu', run_slice_l (P := P) w t _ n c hu' .i64 (k : Int) (by omega) (by omega), he, hsz, sliced]
  split
  · rfl
  · simp [addr_add]
end
section
variable {w W : World} {nb g c : Nat} {xs : List Int}
set_option maxHeartbeats 4000000 in
set_option maxRecDepth 100000 in
theorem removeR_ok (R : RL w nb g c xs) (hn : xs.length ≤ 1000) (j : Nat) {v : Int} (hv : xs[j]? = some v) : Calls Tryz.prog 20 #[.pointer (some ⟨nb, 0, none⟩), .int .i64 j] w fun e w' => e = .returned (.tuple #[.int .i64 v, .int .i64 0]) ∧ RefOk w nb (delAt xs j 1) w' := by
  have hj := (List.getElem?_eq_some_iff.1 hv).1
  have HGT : Hid (Calls Tryz.prog 48 #[.pointer (some ⟨nb, 0, none⟩), .int .i64 j] w fun e w' => e = .returned (.tuple #[.int .i64 v, .int .i64 0]) ∧ Q w w') := by
    refine (getR_any R hn j).mono ?_
    rintro e w' ⟨v2, err, he, hq, (⟨h1, -, -⟩ | ⟨h1, h2, h3⟩)⟩
    · omega
    · rw [Int.toNat_natCast, hv] at h2
      obtain rfl := Option.some.inj h2
      subst h3
      exact ⟨he, hq⟩
  obtain ⟨hc1, hc2, hgl⟩ := R.cap
  have HKK : Hid (∀ W, Q w W → W.cell? ⟨nb, 0, none⟩ = some (.slice (some ⟨g, 0, none⟩) xs.length c) ∧ W.frozen? ⟨nb, 0, none⟩ = false ∧ nb < W.heap.size) := fun W hq => (R.q hq).k
  have HRD : Hid (∀ W, Q w W → Rd W W.heap.size (some ⟨g, 0, none⟩) ((intsV xs).take j)) := fun W hq => (R.q hq).rd.take j
  have hlen : (intsV xs).length = xs.length := by unfold intsV; rw [List.length_map]
  have HRD2 : Hid (∀ W, Q w W → Rd W W.heap.size (some (if c = j + 1 then ⟨g, 0, none⟩ else ⟨g, j + 1, none⟩)) ((intsV xs).drop (j + 1))) := fun W hq => by
    split
    · have h0 : (intsV xs).drop (j + 1) = [] := List.eq_nil_of_length_eq_zero (by rw [List.length_drop]; omega)
      rw [h0]
      exact Rd.nil _ _ _
    · have := (R.q hq).rd.dropAt (j + 1)
      simpa using this
  have HR := hide R
  have HE : Hid ((intsV xs).take j ++ (intsV xs).drop (j + 1) = intsV (delAt xs j 1)) := by
    unfold intsV delAt
    rw [List.map_append, List.map_take, List.map_drop]
    exact rfl
  obtain ⟨len, el⟩ : ∃ len, len = xs.length := ⟨_, rfl⟩
  have HDL : Hid ((delAt xs j 1).length = len - 1) := by show (delAt xs j 1).length = len - 1; rw [delAt_len _ _ _ (by omega), el]
  rw [← el] at hj hc1 HKK hlen hn
  have hli : (len : Int) ≤ 1000 := by omega
  have hjl : (j : Int) < (len : Int) := by omega
  have HT1 : Hid (((intsV xs).take j).length = j * 1) := by show ((intsV xs).take j).length = j * 1; rw [List.length_take]; omega
  have HT2 : Hid (((intsV xs).drop (j + 1)).length = (len - (j + 1)) * 1) := by show ((intsV xs).drop (j + 1)).length = _; rw [List.length_drop]; omega
  have HC1 : Hid (∀ u ∈ (intsV xs).take j, u.oneCell' = true) := fun u hu => intsV_cell xs u (List.mem_of_mem_take hu)
  have HC2 : Hid (∀ u ∈ (intsV xs).drop (j + 1), u.oneCell' = true) := fun u hu => intsV_cell xs u (List.mem_of_mem_drop hu)
  clear hv R el hlen
  go_enter Tryz.func20, Tryz.ntmps20
  go_wp2_with (go_at_call 48; refine HGT.out.mono ?_; rintro e w1 ⟨rfl, hq1⟩; have HQ1 := hide hq1; clear hq1)
  refine Ri.called_last 16 [0, 17, 18] (Ri.phi [Ri.isV (.pointer (some ⟨nb, 0, none⟩)), isLit w.heap.size, Ri.isV (.pointer (some ⟨nb, 0, none⟩)), Ri.isV (.pointer (some ⟨nb, 0, none⟩)), Ri.isV (.pointer (some ⟨nb, 0, none⟩)), Ri.isV (.slice (some ⟨g, 0, none⟩) len c), Ri.isV (.int .i64 (j : Int)), Ri.isV (.slice (some ⟨g, 0, none⟩) j c), isOwnI w.heap.size j ((intsV xs).take j), Ri.isV (.pointer (some ⟨nb, 0, none⟩)), Ri.isV (.pointer (some ⟨nb, 0, none⟩)), Ri.isV (.pointer (some ⟨nb, 0, none⟩)), Ri.isV (.slice (some ⟨g, 0, none⟩) len c), Ri.isV (.int .i64 (j : Int)), Ri.isV (.int .i64 ((j : Int) + 1)), Ri.isV (.slice (some (if c = j + 1 then ⟨g, 0, none⟩ else ⟨g, j + 1, none⟩)) (len - (j + 1)) (c - (j + 1))), fun _ _ => True, Ri.isV (.pointer (some ⟨nb, 0, none⟩)), Ri.isV (.pointer (some ⟨nb, 0, none⟩))]) (fun v W => W.ownsRow w.heap.size 3 1 v (len - 1) (intsV (delAt xs j 1)) ∧ Q w W) (by kernel_rfl) (by kernel_rfl) rfl (by kernel_rfl) rfl (by decide) (by kernel_rfl) (Ri.phi_mono ?_) ?_ ?_ ?_
  · exact ⟨Ri.mono_isV _, mono_lit _, Ri.mono_isV _, Ri.mono_isV _, Ri.mono_isV _, Ri.mono_isV _, Ri.mono_isV _, Ri.mono_isV _, mono_ownI _ _ _, Ri.mono_isV _, Ri.mono_isV _, Ri.mono_isV _, Ri.mono_isV _, Ri.mono_isV _, Ri.mono_isV _, Ri.mono_isV _, fun _ _ _ h _ => h, Ri.mono_isV _, Ri.mono_isV _, trivial⟩
  · intro i v w1 w2 hk hv
    match i, hk, hv with
    | 0, _, hv => exact hv
    | 1, hk, _ => exact absurd hk (by decide)
    | 2, hk, _ => exact absurd hk (by decide)
    | 3, hk, _ => exact absurd hk (by decide)
    | 4, hk, _ => exact absurd hk (by decide)
    | 5, hk, _ => exact absurd hk (by decide)
    | 6, hk, _ => exact absurd hk (by decide)
    | 7, hk, _ => exact absurd hk (by decide)
    | 8, hk, _ => exact absurd hk (by decide)
    | 9, hk, _ => exact absurd hk (by decide)
    | 10, hk, _ => exact absurd hk (by decide)
    | 11, hk, _ => exact absurd hk (by decide)
    | 12, hk, _ => exact absurd hk (by decide)
    | 13, hk, _ => exact absurd hk (by decide)
    | 14, hk, _ => exact absurd hk (by decide)
    | 15, hk, _ => exact absurd hk (by decide)
    | 16, hk, _ => exact absurd hk (by decide)
    | 17, _, hv => exact hv
    | 18, _, hv => exact hv
    | i + 19, hk, _ => exact absurd hk (by unfold Ri.kindOf; rw [if_neg (by omega), if_neg (by first | (simp; done) | (simp; omega))]; decide)
  · refine Ri.All.cons ?_ (Ri.All.cons ?_ (Ri.All.cons ?_ (Ri.All.cons ?_ (Ri.All.cons ?_ (Ri.All.cons ?_ (Ri.All.cons ?_ (Ri.All.cons ?_ (Ri.All.cons ?_ (Ri.All.cons ?_ (Ri.All.cons ?_ (Ri.All.cons ?_ (Ri.All.cons ?_ (Ri.All.cons ?_ (Ri.All.cons ?_ (Ri.All.cons ?_ (Ri.All.cons ?_ (Ri.All.cons ?_ (Ri.All.cons ?_ (Ri.All.nil)))))))))))))))))))
    · refine Ri.StepK.p (by decide) ⟨rfl, fun f W hf A hA hB => ?_⟩
      have e1 := (hB 0 (by kernel_rfl)).trans (show _ = .pointer (some ⟨nb, 0, none⟩) by simp [Act.eval])
      exact Ri.wp_pure _ (Ri.run_mv rfl e1) rfl
    · refine Ri.StepK.g (by decide) ⟨rfl, fun f W hq hf A hA hB hO => ?_⟩
      exact Ri.wp_lit0 El_int rfl ⟨_, rfl, own_lit0 W _ _ _ _ rfl (HQ1.out.trans ((Q.refl w1).drew.trans hq)).size⟩
    · refine Ri.StepK.g (by decide) ⟨rfl, fun f W hq hf A hA hB hO => ?_⟩
      have e1 := (hB 0 (by kernel_rfl)).trans (show _ = .pointer (some ⟨nb, 0, none⟩) by simp [Act.eval])
      exact Ri.wp_value _ (Ri.run_mv rfl e1) rfl
    · refine Ri.StepK.g (by decide) ⟨rfl, fun f W hq hf A hA hB hO => ?_⟩
      have e1 := (hA 18 2 (by kernel_rfl) (by simp)).trans (show f 2 = _ from hf 2 (by kernel_rfl))
      exact Ri.wp_value _ (Ri.run_nil rfl e1) rfl
    · refine Ri.StepK.g (by decide) ⟨rfl, fun f W hq hf A hA hB hO => ?_⟩
      have e1 := (hA 19 3 (by kernel_rfl) (by simp)).trans (show f 3 = _ from hf 3 (by kernel_rfl))
      exact Ri.wp_value _ (Ri.run_fld (f := _) rfl e1 Tryz.underlying47 rfl (sz := 0) (by kernel_rfl)) rfl
    · refine Ri.StepK.g (by decide) ⟨rfl, fun f W hq hf A hA hB hO => ?_⟩
      have e1 := (hA 20 4 (by kernel_rfl) (by simp)).trans (show f 4 = _ from hf 4 (by kernel_rfl))
      exact Ri.wp_value _ (Ri.run_ld1 rfl e1 Tryz.underlying45 rfl ((HKK.out _ (HQ1.out.trans ((Q.refl w1).drew.trans hq))).1)) rfl
    · refine Ri.StepK.g (by decide) ⟨rfl, fun f W hq hf A hA hB hO => ?_⟩
      have e1 := (hB 1 (by kernel_rfl)).trans (show _ = .int .i64 (j : Int) by simp [Act.eval])
      exact Ri.wp_value _ (Ri.run_mv rfl e1) rfl
    · refine Ri.StepK.g (by decide) ⟨rfl, fun f W hq hf A hA hB hO => ?_⟩
      have e1 := (hA 21 5 (by kernel_rfl) (by simp)).trans (show f 5 = _ from hf 5 (by kernel_rfl))
      have e2 := (hA 22 6 (by kernel_rfl) (by simp)).trans (show f 6 = _ from hf 6 (by kernel_rfl))
      exact Ri.wp_value _ (Ri.run_cut rfl e1 e2 Tryz.underlying45 (sz := 1) (by kernel_rfl) (by omega)) rfl
    · refine Ri.StepK.g (by decide) ⟨rfl, fun f W hq hf A hA hB hO => ?_⟩
      obtain ⟨b0, hb, hw⟩ : isLit w.heap.size (f 1) W := hf 1 (by kernel_rfl)
      have e1 := (hA 17 1 (by kernel_rfl) (by simp)).trans hb
      have e2 := (hA 23 7 (by kernel_rfl) (by simp)).trans (show f 7 = _ from hf 7 (by kernel_rfl))
      refine Ri.wp_append El_int _ _ rfl e1 e2 hw (fun h => by cases h) HT1.out (HRD.out _ (HQ1.out.trans ((Q.refl w1).drew.trans hq))) HC1.out (by omega) (HQ1.out.trans ((Q.refl w1).drew.trans hq)).size (fun v w3 h => h)
    · refine Ri.StepK.g (by decide) ⟨rfl, fun f W hq hf A hA hB hO => ?_⟩
      have e1 := (hB 0 (by kernel_rfl)).trans (show _ = .pointer (some ⟨nb, 0, none⟩) by simp [Act.eval])
      exact Ri.wp_value _ (Ri.run_mv rfl e1) rfl
    · refine Ri.StepK.g (by decide) ⟨rfl, fun f W hq hf A hA hB hO => ?_⟩
      have e1 := (hA 25 9 (by kernel_rfl) (by simp)).trans (show f 9 = _ from hf 9 (by kernel_rfl))
      exact Ri.wp_value _ (Ri.run_nil rfl e1) rfl
    · refine Ri.StepK.g (by decide) ⟨rfl, fun f W hq hf A hA hB hO => ?_⟩
      have e1 := (hA 26 10 (by kernel_rfl) (by simp)).trans (show f 10 = _ from hf 10 (by kernel_rfl))
      exact Ri.wp_value _ (Ri.run_fld (f := _) rfl e1 Tryz.underlying47 rfl (sz := 0) (by kernel_rfl)) rfl
    · refine Ri.StepK.g (by decide) ⟨rfl, fun f W hq hf A hA hB hO => ?_⟩
      have e1 := (hA 27 11 (by kernel_rfl) (by simp)).trans (show f 11 = _ from hf 11 (by kernel_rfl))
      exact Ri.wp_value _ (Ri.run_ld1 rfl e1 Tryz.underlying45 rfl ((HKK.out _ (HQ1.out.trans ((Q.refl w1).drew.trans hq))).1)) rfl
    · refine Ri.StepK.g (by decide) ⟨rfl, fun f W hq hf A hA hB hO => ?_⟩
      have e1 := (hB 1 (by kernel_rfl)).trans (show _ = .int .i64 (j : Int) by simp [Act.eval])
      exact Ri.wp_value _ (Ri.run_mv rfl e1) rfl
    · refine Ri.StepK.g (by decide) ⟨rfl, fun f W hq hf A hA hB hO => ?_⟩
      have e1 := (hA 29 13 (by kernel_rfl) (by simp)).trans (show f 13 = _ from hf 13 (by kernel_rfl))
      have e2 : A.eval (.const (.int .i64 1)) = .int .i64 1 := rfl
      exact Ri.wp_value _ (run_addI rfl e1 e2 Tryz.underlying3 (by omega) (by omega)) rfl
    · refine Ri.StepK.g (by decide) ⟨rfl, fun f W hq hf A hA hB hO => ?_⟩
      have e1 := (hA 28 12 (by kernel_rfl) (by simp)).trans (show f 12 = _ from hf 12 (by kernel_rfl))
      have e2 := (hA 30 14 (by kernel_rfl) (by simp)).trans (show f 14 = _ from hf 14 (by kernel_rfl))
      exact Ri.wp_value _ (run_cutlo rfl e1 (e2.trans (by push_cast; rfl)) Tryz.underlying45 (by kernel_rfl) (by omega)) rfl
    · refine Ri.StepK.w (by decide) ⟨rfl, fun f W hq hf A hA hB => ?_⟩
      have ho8 : W.ownsRow w.heap.size 3 1 (f 8) j ((intsV xs).take j) := hf 8 (by kernel_rfl)
      have e1 := hA 24 8 (by kernel_rfl) (by simp)
      have e2 := (hA 31 15 (by kernel_rfl) (by simp)).trans (show f 15 = _ from hf 15 (by kernel_rfl))
      have hqW : Q w W := HQ1.out.trans ((Q.refl w1).drew.trans hq)
      refine Ri.wp_appW El_int _ _ rfl e1 ho8 e2 HT2.out (HRD2.out _ hqW) HC2.out (by omega) hqW.size (fun v2 w3 h1 h2 => ?_)
      rw [HE.out, show j + (len - (j + 1)) = len - 1 by omega] at h1
      exact ⟨h1, q_below hqW (below_own ho8 h2 hqW.size) (Nat.le_refl _)⟩
    · refine Ri.StepK.p (by decide) ⟨rfl, fun f W hf A hA hB => ?_⟩
      have e1 := (hA 16 0 (by kernel_rfl) (by simp)).trans (show f 0 = _ from hf 0 (by kernel_rfl) (by decide))
      exact Ri.wp_pure _ (Ri.run_nil rfl e1) rfl
    · refine Ri.StepK.p (by decide) ⟨rfl, fun f W hf A hA hB => ?_⟩
      have e1 := (hA 33 17 (by kernel_rfl) (by simp)).trans (show f 17 = _ from hf 17 (by kernel_rfl) (by decide))
      exact Ri.wp_pure _ (Ri.run_fld (f := _) rfl e1 Tryz.underlying47 rfl (sz := 0) (by kernel_rfl)) rfl
  · intro f W hP hpu A hAe hA hB
    have e1 := (hA 34 18 (by kernel_rfl) (by simp)).trans (show f 18 = _ from hpu 18 (by simp) (by decide))
    have e2 := hA 32 16 (by kernel_rfl) (by simp)
    obtain ⟨u, hu⟩ : ∃ u, u = f 16 := ⟨_, rfl⟩
    rw [← hu] at hP e2
    obtain ⟨ho, hq2⟩ := hP
    obtain ⟨k0, f0, hl⟩ := HKK.out _ hq2
    obtain ⟨A2, c2, eu, -⟩ := own_form ho
    subst eu
    have ho2 := ho
    rw [← HDL.out] at ho2
    have hF := HR.out.laidV hq2 ho2
    rw [HDL.out] at hF
    have HF := hide hF
    refine Ri.wp_store rfl e1 e2 rfl (by kernel_rfl) rfl rfl k0 f0 ?_
    rw [hAe]
    simp only [Ri.acts, Act.put, List.setIfInBounds_toArray, List.set_cons_zero, List.set_cons_succ]
    clear hpu hA hB hAe e1 e2 ho ho2 hq2 hF k0 f0 hl hu
    go_wp2_with fail
    go_ret2
    exact ⟨rfl, HF.out⟩
set_option maxHeartbeats 4000000 in
set_option maxRecDepth 100000 in
theorem removeR_bad (R : RL w nb g c xs) (hn : xs.length ≤ 1000) (i : Int) (hi : ¬ (0 ≤ i ∧ i < (xs.length : Int))) : Calls Tryz.prog 20 #[.pointer (some ⟨nb, 0, none⟩), .int .i64 i] w fun e w' => e = .returned (.tuple #[.int .i64 0, .int .i64 4]) ∧ Q w w' := by
  have HGT : Hid (Calls Tryz.prog 48 #[.pointer (some ⟨nb, 0, none⟩), .int .i64 i] w fun e w' => e = .returned (.tuple #[.int .i64 0, .int .i64 4]) ∧ Q w w') := by
    refine (getR_any R hn i).mono ?_
    rintro e w' ⟨v2, err, he, hq, (⟨h1, h2, h3⟩ | ⟨h1, h2, h3⟩)⟩
    · subst h2
      subst h3
      exact ⟨he, hq⟩
    · exact absurd h1 hi
  clear R hn hi
  go_enter Tryz.func20, Tryz.ntmps20
  go_wp2_with (go_at_call 48; refine HGT.out.mono ?_; rintro e w1 ⟨rfl, hq1⟩)
  go_ret2
  exact ⟨rfl, hq1⟩
end
end Go.Proofs.YtdaklffbfadghaaGreat

namespace Go.Proofs.YtdaklffbfadghaaGreat
open Go.RowKit HP
set_option linter.unusedVariables false
set_option linter.unusedSimpArgs false
/-- what the ground knows -/
structure Gd where
  blk : Nat
  A : Option Addr
  c : Nat
  others : List (Int × Int)
  used : Int
  sure : Bool
  calls : Int
  most : Int
def Gd.cells (G : Gd) (h : Hp) : Array Value := #[h.ptr, .slice G.A G.others.length G.c, .int .i64 G.used, .bool G.sure, .int .i64 G.calls, .int .i64 G.most]
def Gd.ptr (G : Gd) : Value := .pointer (some ⟨G.blk, 0, none⟩)
/-- a heap, and a ground beside it -/
structure GR (W : World) (h : Hp) (G : Gd) : Prop where
  heap : HpR W h
  mu : h.mu = 0
  box : W.heap[G.blk]? = some (.cells (G.cells h) 74 (0, 0))
  oth : Sl 2 encP W G.A G.others.length G.c G.others
  ap : ¬ h.fp G.blk
  apo : ∀ b o, G.A = some ⟨b, o, none⟩ → b < W.heap.size ∧ ¬ h.fp b ∧ b ≠ G.blk
  few : G.others.length ≤ 64
section
variable {w W W2 : World} {h h1 : Hp} {G : Gd}
theorem GR.q (R : GR W h G) (hq : Q W W2) : GR W2 h G := ⟨R.heap.q hq, R.mu, (hq.below.block _ (blk_lt R.box)).trans R.box, R.oth.up hq, R.ap, fun b o e => ⟨Nat.lt_of_lt_of_le (R.apo b o e).1 hq.size, (R.apo b o e).2⟩, R.few⟩
theorem Sl.same {α : Type} {k : Nat} {enc : α → List Value} {w w' : World} {A : Option Addr} {n c : Nat} {xs : List α} (h : Sl k enc w A n c xs) (hs : w.heap.size ≤ w'.heap.size) (ha : ∀ b o, A = some ⟨b, o, none⟩ → b < w.heap.size → w'.heap[b]? = w.heap[b]?) : Sl k enc w' A n c xs := by
  refine ⟨?_, h.len, h.cap, h.most⟩
  rcases h.rd with e | ⟨g, o, e1, e2, e3⟩
  · exact .inl e
  · refine .inr ⟨g, o, e1, Nat.lt_of_lt_of_le e2 hs, fun j u hu => ?_⟩
    have := e3 j u hu
    unfold World.cell? at this ⊢
    dsimp only at this ⊢
    rw [ha g o e1 e2]
    exact this
/-- a call that leaves the heap as it is has acted on it -/
theorem GR.did (R : GR W h G) {h2 : Hp} (D : Did W h W2 h2) (hmu : h2.mu = 0) : GR W2 h2 G := by
  have hb : ∀ b, b < W.heap.size → ¬ h.fp b → W2.heap[b]? = W.heap[b]? ∧ ¬ h2.fp b := fun b hb hn => ⟨D.turn.block b hb hn, fun e => (D.fp b e).elim hn (by omega)⟩
  have hbl := blk_lt R.box
  refine ⟨D.rep, hmu, ?_, R.oth.same D.turn.size fun b o e hlt => (hb b hlt (R.apo b o e).2.1).1, (hb _ hbl R.ap).2, fun b o e => ?_, R.few⟩
  · rw [(hb _ hbl R.ap).1, R.box]
    unfold Gd.cells Hp.ptr
    rw [D.blk]
  · obtain ⟨a1, a2, a3⟩ := R.apo b o e
    exact ⟨Nat.lt_of_lt_of_le a1 D.turn.size, (hb b a1 a2).2, a3⟩
theorem GR.k (R : GR W h G) : W.cell? ⟨G.blk, 0, none⟩ = some h.ptr ∧ W.cell? ⟨G.blk, 1, none⟩ = some (.slice G.A G.others.length G.c) ∧ W.cell? ⟨G.blk, 2, none⟩ = some (.int .i64 G.used) ∧ W.cell? ⟨G.blk, 3, none⟩ = some (.bool G.sure) ∧ W.cell? ⟨G.blk, 4, none⟩ = some (.int .i64 G.calls) ∧ W.cell? ⟨G.blk, 5, none⟩ = some (.int .i64 G.most) ∧ G.blk < W.heap.size ∧ W.frozen? ⟨G.blk, 4, none⟩ = false ∧ W.frozen? ⟨G.blk, 5, none⟩ = false := by
  refine ⟨?_, ?_, ?_, ?_, ?_, ?_, blk_lt R.box, frozen_of_row _ _ _ _ _ R.box, frozen_of_row _ _ _ _ _ R.box⟩
  all_goals (rw [cell_of_row _ _ _ _ _ _ R.box]; rfl)
/-- a state of calls on a ground: of the world w, in which the heap was h, the heap is as it was, the ground is G1; nothing has turned but both -/
structure GS (w : World) (h : Hp) (gb : Nat) (W : World) (h1 : Hp) (G1 : Gd) : Prop where
  gr : GR W h1 G1
  m : h1.m = h.m
  hb : h1.blk = h.blk
  bk : G1.blk = gb
  turn : Turn (fun b => h.fp b ∨ b = gb) w W
  hf : ∀ b, h1.fp b → h.fp b ∨ w.heap.size ≤ b
theorem GS.start (R : GR w h G) : GS w h G.blk w h G := ⟨R, rfl, rfl, rfl, .refl _ _, fun b e => .inl e⟩
theorem GS.q {gb : Nat} {G1 : Gd} (X : GS w h gb W h1 G1) (hq : Q W W2) : GS w h gb W2 h1 G1 := ⟨X.gr.q hq, X.m, X.hb, X.bk, X.turn.q hq, X.hf⟩
theorem GS.act {gb : Nat} {G1 : Gd} (X : GS w h gb W h1 G1) {h2 : Hp} (D : Did W h1 W2 h2) (hmu : h2.mu = 0) (hm : h2.m = h1.m) : GS w h gb W2 h2 G1 :=
  ⟨X.gr.did D hmu, hm.trans X.m, D.blk.trans X.hb, X.bk, X.turn.trans D.turn fun i hi e => by
    rcases X.hf i e with e | e
    · exact .inl e
    · omega, fun b e => by
    rcases D.fp b e with e | e
    · exact X.hf b e
    · exact .inr (Nat.le_trans X.turn.size e)⟩
theorem GS.k {gb : Nat} {G1 : Gd} (X : GS w h gb W h1 G1) : W.cell? ⟨gb, 0, none⟩ = some h.ptr ∧ W.cell? ⟨gb, 1, none⟩ = some (.slice G1.A G1.others.length G1.c) ∧ W.cell? ⟨gb, 2, none⟩ = some (.int .i64 G1.used) ∧ W.cell? ⟨gb, 3, none⟩ = some (.bool G1.sure) ∧ W.cell? ⟨gb, 4, none⟩ = some (.int .i64 G1.calls) ∧ W.cell? ⟨gb, 5, none⟩ = some (.int .i64 G1.most) ∧ gb < W.heap.size ∧ W.frozen? ⟨gb, 4, none⟩ = false ∧ W.frozen? ⟨gb, 5, none⟩ = false := by
  have := X.gr.k
  rw [X.bk] at this
  have hp : h1.ptr = h.ptr := by unfold Hp.ptr; rw [X.hb]
  rw [hp] at this
  exact this
/-- rows of pairs are none of the heap's -/
theorem fp_pair (H : HpR W h1) {b : Nat} {cs : Array Value} {k : Nat × Nat} (hc : W.heap[b]? = some (.cells cs 64 k)) : ¬ h1.fp b := by
  intro hf
  rcases hf with hb | hb | ⟨x, hx, hb⟩ | ⟨hk, hb⟩
  · subst hb
    exact ty_ne hc H.cells (by decide) rfl
  · obtain ⟨cs', e'⟩ := own_blk H.live hb
    exact ty_ne hc e' (by decide) rfl
  · subst hb
    obtain ⟨cs', e'⟩ := own_blk (H.rows x hx) x.own
    exact ty_ne hc e' (by decide) rfl
  · subst hb
    rcases hk with hk | hk
    · exact ty_ne hc (H.w1 hk) (by decide) rfl
    · exact ty_ne hc (H.w2 hk) (by decide) rfl
/-- what a region of calls on the ground may turn -/
def GT (w : World) (h : Hp) (gb : Nat) (G1 : Gd) (W W2 : World) : Prop := W.heap.size ≤ W2.heap.size ∧ (∀ (b : Nat) (cs : Array Value) (k : Nat × Nat), W.heap[b]? = some (.cells cs 64 k) → W2.heap[b]? = W.heap[b]?) ∧ ((∃ h1, GS w h gb W h1 G1) → ∃ h2, GS w h gb W2 h2 G1)
theorem GT.refl {gb : Nat} {G1 : Gd} : GT w h gb G1 W W := ⟨Nat.le_refl _, fun _ _ _ _ => rfl, fun x => x⟩
theorem GT.trans {gb : Nat} {G1 : Gd} {W3 : World} (t : GT w h gb G1 W W2) (t2 : GT w h gb G1 W2 W3) : GT w h gb G1 W W3 :=
  ⟨Nat.le_trans t.1 t2.1, fun b cs k e => (t2.2.1 b cs k ((t.2.1 b cs k e).trans e)).trans (t.2.1 b cs k e), fun x => t2.2.2 (t.2.2 x)⟩
theorem GT.of_q {gb : Nat} {G1 : Gd} (hq : Q W W2) : GT w h gb G1 W W2 := ⟨hq.size, fun b cs k e => hq.below.block b (blk_lt e), fun ⟨h1, X⟩ => ⟨h1, X.q hq⟩⟩
def LvP (n : Nat) (L : List (Int × Int)) (v : Value) (W : World) : Prop := ∃ A c, v = .slice A n c ∧ Sl 2 encP W A n c L ∧ ∀ (b o : Nat), A = some ⟨b, o, none⟩ → ∃ (cs : Array Value) (k : Nat × Nat), W.heap[b]? = some (.cells cs 64 k)
theorem LvP.t {gb : Nat} {G1 : Gd} {n : Nat} {L : List (Int × Int)} {v : Value} (x : LvP n L v W) (t : GT w h gb G1 W W2) : LvP n L v W2 := by
  obtain ⟨A, c, e, hS, hc⟩ := x
  refine ⟨A, c, e, hS.same t.1 fun b o ea _ => ?_, fun b o ea => ?_⟩
  · obtain ⟨cs, k, e2⟩ := hc b o ea
    exact t.2.1 b cs k e2
  · obtain ⟨cs, k, e2⟩ := hc b o ea
    exact ⟨cs, k, (t.2.1 b cs k e2).trans e2⟩
end
end Go.Proofs.YtdaklffbfadghaaGreat

namespace Go.Proofs.YtdaklffbfadghaaGreat
open Go.RowKit HP
set_option linter.unusedVariables false
set_option linter.unusedSimpArgs false
section
variable {w : World} {h : Hp} {G : Gd}
end
end Go.Proofs.YtdaklffbfadghaaGreat

namespace Go.Proofs.YtdaklffbfadghaaGreat
open Go.RowKit HP
set_option linter.unusedVariables false
set_option linter.unusedSimpArgs false
section
variable {w : World} {h : Hp} {G : Gd}
end
end Go.Proofs.YtdaklffbfadghaaGreat

namespace Go.Proofs.YtdaklffbfadghaaGreat
open Go.RowKit HP
set_option linter.unusedVariables false
set_option linter.unusedSimpArgs false
section
variable {w : World} {h : Hp} {G : Gd}
end
end Go.Proofs.YtdaklffbfadghaaGreat

namespace Go.Proofs.YtdaklffbfadghaaGreat
open Go.RowKit HP
set_option linter.unusedVariables false
set_option linter.unusedSimpArgs false
/-- what is known of a heap and its ground at the beginning -/
structure Bg (m : HM) (G : Gd) : Prop where
  calls : G.calls = m.calls
  few : m.calls ≤ 4
  others : G.others = stretches m
  used : G.used = used m.live
  most : G.most = 0
  sure : G.sure = true → m.kind = 0 ∧ m.size = 4096 ∧ m.failIn = 0 ∧ m.live = []
/-- the same, beside the row of its live blocks -/
def BS (wb : World) (g : Nat) (m : HM) (v : Value) (W : World) : Prop := ∃ h : Hp, h.blk = g ∧ HpR W h ∧ h.mu = 0 ∧ h.m = m ∧ Q wb W ∧ (∀ b, h.fp b → wb.heap.size ≤ b) ∧ LvP (stretches m).length (stretches m) v W
theorem LvP.did {n : Nat} {L : List (Int × Int)} {v : Value} {W W2 : World} {h1 h2 : Hp} (x : LvP n L v W) (H : HpR W h1) (D : Did W h1 W2 h2) : LvP n L v W2 := by
  obtain ⟨A, c, e, hS, hc⟩ := x
  refine ⟨A, c, e, hS.same D.turn.size fun b o ea _ => ?_, fun b o ea => ?_⟩
  · obtain ⟨cs, k, e2⟩ := hc b o ea
    exact D.turn.block b (blk_lt e2) (fp_pair H e2)
  · obtain ⟨cs, k, e2⟩ := hc b o ea
    exact ⟨cs, k, (D.turn.block b (blk_lt e2) (fp_pair H e2)).trans e2⟩
theorem BS.act {wb W W' : World} {m : HM} {v : Value} {h h2 : Hp} (h6 : ∀ b, h.fp b → wb.heap.size ≤ b) (h5 : Q wb W) (x : LvP (stretches m).length (stretches m) v W) (H : HpR W h) (D : Did W h W' h2) (hmu : h2.mu = 0) (hm : h2.m = m) : BS wb h.blk m v W' := by
  refine ⟨h2, D.blk, D.rep, hmu, hm, (Own.did (h := h) rfl h5 h6 D hmu).toQ, fun b hb => ?_, x.did H D⟩
  rcases D.fp b hb with e | e
  · exact h6 b e
  · exact Nat.le_trans h5.size e
end Go.Proofs.YtdaklffbfadghaaGreat

namespace Go.Proofs.YtdaklffbfadghaaGreat
open Go.RowKit HP
set_option linter.unusedVariables false
set_option linter.unusedSimpArgs false
end Go.Proofs.YtdaklffbfadghaaGreat

namespace Go.Proofs.YtdaklffbfadghaaGreat
open Go.RowKit HP
set_option linter.unusedVariables false
set_option linter.unusedSimpArgs false
/-- of the world w, all is new: a heap at hb, a list at lb that holds xs; nothing is refused -/
def KL (w W : World) (hb lb : Nat) (xs : List Int) (c : Int) : Prop := ∃ (h : Hp) (r : Rw), LR W h r ∧ LstR h.m r xs ∧ Low h.m 1 r.ps ∧ h.blk = hb ∧ r.blk = lb ∧ h.m.calls ≤ c ∧ Q w W ∧ ∀ b, h.fp b ∨ r.fp b → w.heap.size ≤ b
section
variable {w W W2 : World} {hb lb : Nat} {xs : List Int} {c : Int}
theorem KL.q (K : KL w W hb lb xs c) (hq : Q W W2) : KL w W2 hb lb xs c := by
  obtain ⟨h, r, L, S, o, e1, e2, hc, h5, hn⟩ := K
  exact ⟨h, r, ((LDid.refl L).q hq).lr, S, o, e1, e2, hc, h5.trans hq, hn⟩
theorem KL.toQ (K : KL w W hb lb xs c) : Q w W := by
  obtain ⟨h, r, L, S, o, e1, e2, hc, h5, hn⟩ := K
  exact h5
end
end Go.Proofs.YtdaklffbfadghaaGreat

namespace Go.Proofs.YtdaklffbfadghaaGreat
open Go.RowKit HP Go.Maps
set_option linter.unusedVariables false
set_option linter.unusedSimpArgs false
/-- of the world w, all is new: a heap, a map at lb that holds kv; nothing is refused; a row v of numbers beside them -/
def KM (w W : World) (lb : Nat) (kv : List (Int × Int)) (c : Int) (v : Value) (ys : List Int) : Prop := ∃ (h : Hp) (r : Rw) (mb n d : Nat) (D : DM), LR W h r ∧ MapR h.m r kv ∧ World.keeps W mb n D ∧ (¬ h.fp mb ∧ ¬ r.fp mb) ∧ r.more = [.map (some mb)] ∧ Wh D (keysOf kv) ∧ Low h.m 2 r.ps d ∧ r.blk = lb ∧ h.m.calls ≤ c ∧ (n : Int) ≤ c ∧ Q w W ∧ (∀ b, h.fp b ∨ r.fp b ∨ b = mb → w.heap.size ≤ b) ∧ W.ownsRow w.heap.size 3 1 v ys.length (intsV ys) ∧ ∀ g, v.ownBlock = some g → ¬ h.fp g ∧ ¬ r.fp g ∧ g ≠ mb
section
variable {w W W2 : World} {hb lb : Nat} {xs ys : List Int} {kv : List (Int × Int)} {c : Int} {v : Value}
theorem KM.toQ (K : KM w W lb kv c v ys) : Q w W := by
  obtain ⟨h, r, mb, n, d, D, L, S, o, ha, hmo, hW, hl, e2, hcc, hnn, h5, hn, ho, hv⟩ := K
  exact h5
theorem KM.own (K : KM w W lb kv c v ys) : W.ownsRow w.heap.size 3 1 v ys.length (intsV ys) := by
  obtain ⟨h, r, mb, n, d, D, L, S, o, ha, hmo, hW, hl, e2, hcc, hnn, h5, hn, ho, hv⟩ := K
  exact ho
end
end Go.Proofs.YtdaklffbfadghaaGreat

namespace Go.Proofs.YtdaklffbfadghaaGreat
open Go.RowKit HP Go.Maps
set_option linter.unusedVariables false
set_option linter.unusedSimpArgs false
theorem own_sl {W : World} {B : Nat} {A : Option Addr} {n c : Nat} {xs : List Int} (hn : n = xs.length) (h : W.ownsRow B 3 1 (.slice A n c) n (intsV xs)) : Sl 1 (encI .i64) W A n c xs := by
  rw [← flat_ints] at h
  exact Sl.own (own_low h (Nat.zero_le _)) (fun _ => rfl) (by decide)
end Go.Proofs.YtdaklffbfadghaaGreat

namespace Go.Proofs.YtdaklffbfadghaaGreat
open Go.RowKit HP
set_option linter.unusedVariables false
set_option linter.unusedSimpArgs false
section
variable {w : World} {v : Value}
end
end Go.Proofs.YtdaklffbfadghaaGreat

namespace Go.Proofs.YtdaklffbfadghaaGreat
open Go.RowKit HP
set_option linter.unusedVariables false
set_option linter.unusedSimpArgs false
theorem rest_nil (m : HM) : rest m [] = stretches m := by
  unfold rest
  exact List.filter_eq_self.2 fun x _ => by simp
/-- what is known of a heap with rows of T numbers in it, and of its ground, behind k acts -/
structure GI (m : HM) (T : Nat) (ps : List Int) (n : Nat) (G : Gd) (k : Nat) : Prop where
  inv : Inv m
  pcs : Pcs m T ps n
  t3 : T ≤ 3
  calls : G.calls = m.calls
  rest : rest m ps = G.others
  used : G.used = sum2 G.others
  most : (n : Int) ≤ G.most ∧ G.most ≤ 64
  low : G.sure = true → Low m T ps
  few : m.calls ≤ 4 + (k : Int)
section
variable {m m' : HM} {T n n' k : Nat} {ps qs : List Int} {G G2 : Gd} {w W W' : World} {h : Hp}
theorem GI.start (I : Inv m) (B : Bg m G) (T : Nat) (hT : T ≤ 3) : GI m T [] 0 G 0 :=
  ⟨I, (Kp.nil m T).pcs, hT, B.calls, by rw [rest_nil, B.others], by rw [B.used, B.others]; exact (sum2_used _).symm, by rw [B.most]; decide, fun e => by
    obtain ⟨a1, a2, a3, a4⟩ := B.sure e
    exact Low.zero a1 a2 a3 a4 T, by have := B.few; omega⟩
/-- what next is asked, and what the ground becomes -/
def NextO (G : Gd) (m : HM) (got want : Int) (lg : Bool) (n : Int) (G2 : Gd) : Prop :=
  (got = want ∧ (lg = true → (got != 0) = true) ∧ G.calls = m.calls ∧ G2 = G) ∨
  (got = 0 ∧ want = 0 ∧ lg = true ∧ G2 = { G with calls := m.calls, most := max G.most n }) ∨
  (got = 3 ∧ want = 0 ∧ lg = true ∧ (G.sure = true → 16 < n) ∧ G2 = { G with calls := m.calls })
theorem NextO.keep {got want n : Int} {lg : Bool} (O : NextO G m got want lg n G2) : G2.blk = G.blk ∧ G2.A = G.A ∧ G2.others = G.others := by
  rcases O with ⟨-, -, -, rfl⟩ | ⟨-, -, -, rfl⟩ | ⟨-, -, -, -, rfl⟩ <;> exact ⟨rfl, rfl, rfl⟩
theorem GI.fr (g : GI m T ps n G k) (F : Fr m m' ps qs) : Go.Proofs.YtdaklffbfadghaaGreat.rest m' qs = G.others := F.rest.trans g.rest
theorem GI.quiet (g : GI m T ps n G k) (I : Inv m') (F : Fr m m' ps qs) (P : Pcs m' T qs n') (hn : n' ≤ n) (hc : m'.calls = m.calls) (hl : Low m T ps → Low m' T qs) : GI m' T qs n' G (k + 1) :=
  ⟨I, P, g.t3, by rw [hc]; exact g.calls, g.fr F, g.used, by have := g.most; omega, fun e => hl (g.low e), by have := g.few; omega⟩
theorem GI.ok (g : GI m T ps n G k) (I : Inv m') (F : Fr m m' ps qs) (P : Pcs m' T qs n') (hn : n' ≤ 64) (hc : m'.calls ≤ m.calls + 1) (hl : Low m T ps → Low m' T qs) : GI m' T qs n' { G with calls := m'.calls, most := max G.most (n' : Int) } (k + 1) :=
  ⟨I, P, g.t3, rfl, g.fr F, g.used, by have := g.most; show (n' : Int) ≤ max G.most n' ∧ max G.most n' ≤ 64; omega, fun e => hl (g.low e), by have := g.few; omega⟩
theorem GI.no (g : GI m T ps n G k) (I : Inv m') (F : Fr m m' ps qs) (P : Pcs m' T qs n') (hn : n' ≤ n) (hc : m'.calls ≤ m.calls + 1) (hl : Low m T ps → Low m' T qs) : GI m' T qs n' { G with calls := m'.calls } (k + 1) :=
  ⟨I, P, g.t3, rfl, g.fr F, g.used, by have := g.most; show (n' : Int) ≤ G.most ∧ G.most ≤ 64; omega, fun e => hl (g.low e), by have := g.few; omega⟩
theorem GI.more {k2 : Nat} (g : GI m T ps n G k) (h : k ≤ k2) : GI m T ps n G k2 := { g with few := by have := g.few; omega }
end
/-- heap, rows and ground, all made since w, beside each other and beside the blocks of S -/
structure LG (w W : World) (hb : Nat) (m : HM) (r : Rw) (G : Gd) (S : Nat → Prop) : Prop where
  ex : ∃ h : Hp, LR W h r ∧ GR W h G ∧ h.m = m ∧ h.blk = hb ∧ (∀ b, h.fp b → w.heap.size ≤ b) ∧ ∀ b, S b → ¬ h.fp b
  q : Q w W
  rg : ¬ r.fp G.blk
  ro : ∀ b o, G.A = some ⟨b, o, none⟩ → ¬ r.fp b ∧ ¬ S b
  rn : ∀ b, r.fp b → w.heap.size ≤ b
  gn : w.heap.size ≤ G.blk
  ss : ∀ b, S b → b < W.heap.size ∧ w.heap.size ≤ b ∧ ¬ r.fp b ∧ b ≠ G.blk
section
variable {m m' : HM} {w W W' : World} {h : Hp} {r : Rw} {G G2 : Gd} {hb : Nat} {S S' T : Nat → Prop} {f : FuncId} {args : Array Value}
theorem LR.keep (L : LR W h r) (hk : ∀ b, h.fp b ∨ r.fp b → W'.heap[b]? = W.heap[b]?) : LR W' h r :=
  ⟨L.heap.same fun b hf => hk b (.inl hf), L.mu, (hk _ (.inr (.inl rfl))).trans L.cells, own_same L.pcs fun g hg => hk g (.inr (.inr hg)), L.ap1, L.ap2⟩
theorem GR.keep (R : GR W h G) (hs : W.heap.size ≤ W'.heap.size) (hk : ∀ b, h.fp b ∨ b = G.blk ∨ (∃ o, G.A = some ⟨b, o, none⟩) → W'.heap[b]? = W.heap[b]?) : GR W' h G :=
  ⟨R.heap.same fun b hf => hk b (.inl hf), R.mu, (hk _ (.inr (.inl rfl))).trans R.box, R.oth.same hs fun b o e _ => hk b (.inr (.inr ⟨o, e⟩)), R.ap, fun b o e => ⟨Nat.lt_of_lt_of_le (R.apo b o e).1 hs, (R.apo b o e).2⟩, R.few⟩
theorem LG.start (R : GR W h G) (hq : Q W W') (L : LR W' h r) (hr : ∀ b, r.fp b → W.heap.size ≤ b) (hw : Q w W) (hn : ∀ b, h.fp b → w.heap.size ≤ b) (hg : w.heap.size ≤ G.blk) : LG w W' h.blk h.m r G (fun _ => False) := by
  have hbl := blk_lt R.box
  refine ⟨⟨h, L, R.q hq, rfl, rfl, hn, fun b e => e.elim⟩, hw.trans hq, fun e => ?_, fun b o e => ⟨fun e2 => ?_, fun e2 => e2⟩, fun b e => Nat.le_trans hw.size (hr b e), hg, fun b e => e.elim⟩
  · have := hr _ e
    omega
  · have := hr _ e2
    have := (R.apo b o e).1
    omega
/-- some of the blocks apart have turned; some may have come, some be forgotten -/
theorem LG.turn (X : LG w W hb m r G S) (t : Turn T W W') (hT : ∀ b, T b → S b) (hS : ∀ b, S' b → S b ∨ (W.heap.size ≤ b ∧ b < W'.heap.size)) : LG w W' hb m r G S' := by
  obtain ⟨⟨h, L, R, e1, e2, e3, e4⟩, h1, h2, h3, h4, h5, h6⟩ := X
  have nw : ∀ b, S' b → ¬ h.fp b ∧ ¬ r.fp b ∧ b ≠ G.blk ∧ (∀ o, G.A ≠ some ⟨b, o, none⟩) ∧ b < W'.heap.size ∧ w.heap.size ≤ b := fun b hb => by
    rcases hS b hb with e | ⟨e, e'⟩
    · obtain ⟨a1, a2, a3, a4⟩ := h6 b e
      exact ⟨e4 b e, a3, a4, fun o eo => (h3 b o eo).2 e, Nat.lt_of_lt_of_le a1 t.size, a2⟩
    · refine ⟨fun x => ?_, fun x => ?_, fun x => ?_, fun o x => ?_, e', Nat.le_trans h1.size e⟩
      · have := L.heap.lt b x; omega
      · have := L.rlt b x; omega
      · have := blk_lt R.box; omega
      · have := (R.apo b o x).1; omega
  refine ⟨⟨h, L.keep fun b hf => ?_, R.keep t.size fun b hf => ?_, e1, e2, e3, fun b hb => (nw b hb).1⟩, ?_, h2, fun b o e => ⟨(h3 b o e).1, fun hs => (nw b hs).2.2.2.1 o e⟩, h4, h5, fun b hb => ⟨(nw b hb).2.2.2.2.1, (nw b hb).2.2.2.2.2, (nw b hb).2.1, (nw b hb).2.2.1⟩⟩
  · refine t.block b (hf.elim (L.heap.lt b) (L.rlt b)) fun ht => ?_
    rcases hf with x | x
    · exact e4 b (hT b ht) x
    · exact (h6 b (hT b ht)).2.2.1 x
  · rcases hf with x | x | ⟨o, x⟩
    · exact t.block b (L.heap.lt b x) fun ht => e4 b (hT b ht) x
    · subst x
      exact t.block _ (blk_lt R.box) fun ht => (h6 _ (hT _ ht)).2.2.2 rfl
    · exact t.block b (R.apo b o x).1 fun ht => (h3 b o x).2 (hT b ht)
  · exact Turn.q_of h1 t fun i hi => (h6 i (hT i hi)).2.1
theorem LG.q' (X : LG w W hb m r G S) (hq : Q W W') : LG w W' hb m r G S := X.turn (T := fun _ => False) (.of_q hq) (fun b e => e.elim) fun b e => .inl e
/-- a call on the rows -/
theorem LG.list (X : LG w W hb m r G S) {P : Ending → World → HM → Rw → Prop} (hc : ∀ h, LR W h r → h.m = m → h.blk = hb → h.calls = m.calls → Calls Tryz.prog f args W fun e W' => ∃ m2 r2, LS W h r W' m2 r2 ∧ P e W' m2 r2) :
    Calls Tryz.prog f args W fun e W' => ∃ m2 r2, (LG w W' hb m2 r2 G S ∧ r2.blk = r.blk ∧ ∀ b, S b → W'.heap[b]? = W.heap[b]?) ∧ P e W' m2 r2 := by
  obtain ⟨⟨h, L, R, e1, e2, e3, e4⟩, h1, h2, h3, h4, h5, h6⟩ := X
  refine (hc h L e1 e2 (by rw [← e1]; rfl)).mono ?_
  rintro e W' ⟨m2, r2, ⟨h', D, em⟩, hP⟩
  have hbl := blk_lt R.box
  have ag := D.apart hbl R.ap h2
  have asx : ∀ b, S b → W'.heap[b]? = W.heap[b]? ∧ ¬ h'.fp b ∧ ¬ r2.fp b := fun b hb => D.apart (h6 b hb).1 (e4 b hb) (h6 b hb).2.2.1
  have hsz := h1.size
  refine ⟨m2, r2, ⟨⟨⟨h', D.lr, ⟨D.lr.heap, D.lr.mu, ?_, R.oth.same D.turn.size fun b o ea hl => (D.apart hl (R.apo b o ea).2.1 (h3 b o ea).1).1, ag.2.1, fun b o ea => ?_, R.few⟩, em, D.hb.trans e2, fun b hf => ?_, fun b hb => (asx b hb).2.1⟩, Turn.q_of h1 D.turn fun i hi => hi.elim (e3 i) (h4 i), ag.2.2, fun b o ea => ⟨(D.apart (R.apo b o ea).1 (R.apo b o ea).2.1 (h3 b o ea).1).2.2, (h3 b o ea).2⟩, fun b hf => ?_, h5, fun b hb => ⟨Nat.lt_of_lt_of_le (h6 b hb).1 D.turn.size, (h6 b hb).2.1, (asx b hb).2.2, (h6 b hb).2.2.2⟩⟩, D.rb, fun b hb => (asx b hb).1⟩, hP⟩
  · rw [ag.1, R.box]
    unfold Gd.cells Hp.ptr
    rw [D.hb]
  · obtain ⟨a1, a2, a3⟩ := R.apo b o ea
    exact ⟨Nat.lt_of_lt_of_le a1 D.turn.size, (D.apart a1 a2 (h3 b o ea).1).2.1, a3⟩
  · rcases D.hf b hf with x | x
    · exact e3 b x
    · omega
  · rcases D.rf b hf with x | x
    · exact h4 b x
    · omega
end
end Go.Proofs.YtdaklffbfadghaaGreat

namespace Go.Proofs.YtdaklffbfadghaaGreat
open Go.RowKit HP
set_option linter.unusedVariables false
set_option linter.unusedSimpArgs false
/-- the state within a round: heap, rows, ground; the model's box mb and its row; the act's box ab; the next model's box nb and its row -/
structure AS (w W : World) (hb lb gb mb ab nb : Nat) (v v3 : Value) (m : HM) (r : Rw) (G : Gd) (op A B : Int) (xs ys : List Int) : Prop where
  rb : r.blk = lb
  gk : G.blk = gb
  lg : LG w W hb m r G (fun b => b = mb ∨ b = ab ∨ b = nb ∨ v.ownBlock = some b ∨ v3.ownBlock = some b)
  mbox : W.heap[mb]? = some (.cells #[v] 47 (0, 0))
  vown : W.ownsRow w.heap.size 3 1 v xs.length (intsV xs)
  abox : W.heap[ab]? = some (.cells #[.int .i64 op, .int .i64 A, .int .i64 B] 53 (0, 0))
  nbox : W.heap[nb]? = some (.cells #[v3] 47 (0, 0))
  nown : W.ownsRow w.heap.size 3 1 v3 ys.length (intsV ys)
  ne : mb ≠ nb ∧ ab ≠ nb ∧ v.ownBlock ≠ some nb
section
variable {w W W' : World} {hb lb gb mb ab nb k g c : Nat} {v v3 : Value} {m m2 : HM} {r r2 : Rw} {G G2 : Gd} {op A B : Int} {xs ys zs : List Int} {f : FuncId} {args : Array Value}
theorem AS.q (X : AS w W hb lb gb mb ab nb v v3 m r G op A B xs ys) (hq : Q W W') : AS w W' hb lb gb mb ab nb v v3 m r G op A B xs ys :=
  ⟨X.rb, X.gk, X.lg.q' hq, (hq.below.block _ (blk_lt X.mbox)).trans X.mbox, own_q X.vown hq, (hq.below.block _ (blk_lt X.abox)).trans X.abox, (hq.below.block _ (blk_lt X.nbox)).trans X.nbox, own_q X.nown hq, X.ne⟩
theorem AS.list (X : AS w W hb lb gb mb ab nb v v3 m r G op A B xs ys) {P : Ending → World → HM → Rw → Prop} (hc : ∀ h, LR W h r → h.m = m → h.calls = m.calls → Calls Tryz.prog f args W fun e W' => ∃ m2 r2, LS W h r W' m2 r2 ∧ P e W' m2 r2) :
    Calls Tryz.prog f args W fun e W' => ∃ m2 r2, AS w W' hb lb gb mb ab nb v v3 m2 r2 G op A B xs ys ∧ P e W' m2 r2 := by
  refine (X.lg.list fun h L e1 e2 e3 => hc h L e1 e3).mono ?_
  rintro e W' ⟨m2, r2, ⟨hl, hb, hs⟩, hP⟩
  exact ⟨m2, r2, ⟨hb.trans X.rb, X.gk, hl, (hs _ (.inl rfl)).trans X.mbox, own_same X.vown fun g hg => hs g (.inr (.inr (.inr (.inl hg)))), (hs _ (.inr (.inl rfl))).trans X.abox, (hs _ (.inr (.inr (.inl rfl)))).trans X.nbox, own_same X.nown fun g hg => hs g (.inr (.inr (.inr (.inr hg)))), X.ne⟩, hP⟩
theorem AS.cs (X : AS w W hb lb gb mb ab nb v v3 m r G op A B xs ys) : W.cell? ⟨ab, 0, none⟩ = some (.int .i64 op) ∧ W.cell? ⟨ab, 1, none⟩ = some (.int .i64 A) ∧ W.cell? ⟨ab, 2, none⟩ = some (.int .i64 B) ∧ W.cell? ⟨nb, 0, none⟩ = some v3 ∧ W.cell? ⟨mb, 0, none⟩ = some v ∧ ab < W.heap.size ∧ nb < W.heap.size ∧ mb < W.heap.size ∧ W.frozen? ⟨mb, 0, none⟩ = false := by
  refine ⟨?_, ?_, ?_, ?_, ?_, blk_lt X.abox, blk_lt X.nbox, blk_lt X.mbox, frozen_of_row _ _ _ _ _ X.mbox⟩
  · rw [cell_of_row _ _ _ _ _ _ X.abox]; rfl
  · rw [cell_of_row _ _ _ _ _ _ X.abox]; rfl
  · rw [cell_of_row _ _ _ _ _ _ X.abox]; rfl
  · rw [cell_of_row _ _ _ _ _ _ X.nbox]; rfl
  · rw [cell_of_row _ _ _ _ _ _ X.mbox]; rfl
theorem LstR.fit64 {m : HM} {r : Rw} {xs : List Int} (S : LstR m r xs) : xs.length ≤ 64 := by
  have := S.kp.len
  rw [one_len] at this
  exact this
theorem LstR.pcs {m : HM} {r : Rw} {xs : List Int} (S : LstR m r xs) : Pcs m 1 r.ps xs.length := by
  have := S.kp.pcs
  rw [one_len] at this
  exact this
/-- what an act comes to -/
def ActO (m2 : HM) (r2 : Rw) (G G2 : Gd) (k : Nat) (xs ys xs2 : List Int) (got want : Int) (lg : Bool) : Prop :=
  NextO G m2 got want lg ys.length G2 ∧ GI m2 1 r2.ps xs2.length G2 (k + 1) ∧ LstR m2 r2 xs2 ∧ (((got == 0) = true ∧ xs2 = ys) ∨ ((got == 0) = false ∧ xs2 = xs))
theorem ActO.same {got : Int} {lg : Bool} (S : LstR m r xs) (g : GI m 1 r.ps xs.length G k) (h : (got == 0) = false) : ActO m r G G k xs ys xs got got lg :=
  ⟨.inl ⟨rfl, fun _ => by simp only [bne, h]; rfl, g.calls, rfl⟩, g.more (by omega), S, .inr ⟨h, rfl⟩⟩
/-- what the document's next list is -/
def insY (xs : List Int) (i n : Int) : List Int := if insP xs i n = 0 then insAt xs i.toNat [n] else xs
theorem ins_out {i n err : Int} (S : LstR m r xs) (g : GI m 1 r.ps xs.length G k) (O : InsO m m2 r r2 xs i n err) : ∃ G2 xs2, ActO m2 r2 G G2 k xs (insY xs i n) xs2 err (insP xs i n) true := by
  rcases O with ⟨h1, rfl, rfl, rfl⟩ | ⟨h1, h2, rfl, rfl, rfl⟩ | ⟨h1, h2, ok, rfl, S2, I⟩
  · have e : insP xs i n = 1 := by unfold insP; rw [if_pos h1]
    rw [e]
    exact ⟨G, xs, .same S g rfl⟩
  · have e : insP xs i n = 4 := by unfold insP; rw [if_neg (by rw [h1]; decide), if_pos h2]
    rw [e]
    exact ⟨G, xs, .same S g rfl⟩
  · have h64 := S.fit64
    have e : insP xs i n = if 64 ≤ xs.length then 3 else 0 := by unfold insP; rw [if_neg (by rw [h1]; decide), if_neg (fun x => x h2)]
    have P2 := S2.pcs
    by_cases hf : xs.length = 64
    · obtain ⟨e1, e2⟩ := I.full (by rw [one_len]; exact hf)
      subst e1
      rw [if_pos (by omega)] at e
      have ey : insY xs i n = xs := by unfold insY; rw [e, if_neg (by decide)]
      rw [e, ey]
      exact ⟨G, xs, .inl ⟨rfl, fun _ => rfl, by rw [e2]; exact g.calls, rfl⟩, g.quiet S2.inv I.fr P2 (Nat.le_refl _) e2 fun L => (I.low 0 L).1, S2, .inr ⟨rfl, rfl⟩⟩
    · rw [if_neg (by omega)] at e
      have ey : insY xs i n = insAt xs i.toNat [n] := by unfold insY; rw [e, if_pos rfl]
      have hlen : (insAt xs i.toNat [n]).length = xs.length + 1 := by rw [insAt_len _ _ _ (by omega)]; rfl
      rw [e, ey]
      cases ok with
      | true =>
        have P2 : Pcs m2 1 r2.ps (insAt xs i.toNat [n]).length := P2
        refine ⟨{ G with calls := m2.calls, most := max G.most ((insAt xs i.toNat [n]).length : Int) }, insAt xs i.toNat [n], .inr (.inl ⟨rfl, rfl, rfl, rfl⟩), g.ok S2.inv I.fr P2 (by omega) I.calls.2 fun L => (I.low 0 L).1, S2, .inl ⟨rfl, rfl⟩⟩
      | false =>
        have P2 : Pcs m2 1 r2.ps xs.length := P2
        refine ⟨{ G with calls := m2.calls }, xs, .inr (.inr ⟨rfl, rfl, rfl, fun hs => ?_, rfl⟩), g.no S2.inv I.fr P2 (Nat.le_refl _) I.calls.2 fun L => (I.low 0 L).1, S2, .inr ⟨rfl, rfl⟩⟩
        have h16 : ¬ xs.length < 16 := fun h => by
          have := (I.low 0 (g.low hs)).2 (by rw [one_len]; exact h)
          cases this
        omega
/-- what the document's Remove and Get say -/
def remV (xs : List Int) (i : Int) : Int := if 0 ≤ i ∧ i < (xs.length : Int) then xs.getD i.toNat 0 else 0
def remY (xs : List Int) (i : Int) : List Int := if 0 ≤ i ∧ i < (xs.length : Int) then delAt xs i.toNat 1 else xs
theorem remV_of {i v : Int} (h : 0 ≤ i ∧ i < (xs.length : Int)) (hv : xs[i.toNat]? = some v) : remV xs i = v := by
  unfold remV
  rw [if_pos h, List.getD_eq_getElem?_getD, hv]
  rfl
theorem rem_out {i v err : Int} (S : LstR m r xs) (g : GI m 1 r.ps xs.length G k) (O : RemO m m2 r r2 xs i v err) : v = remV xs i ∧ err = askE xs i ∧ ∃ G2 xs2, ActO m2 r2 G G2 k xs (remY xs i) xs2 err (askE xs i) false := by
  rcases O with ⟨h1, rfl, rfl, rfl, rfl⟩ | ⟨h1, h2, rfl, S2, I⟩
  · have e : askE xs i = 4 := if_neg h1
    rw [e]
    exact ⟨(if_neg h1).symm, rfl, G, xs, .same S g rfl⟩
  · have e : askE xs i = 0 := if_pos h1
    have ey : remY xs i = delAt xs i.toNat 1 := if_pos h1
    rw [e, ey]
    have hl : (delAt xs i.toNat 1).length ≤ xs.length := by rw [delAt_len _ _ _ (by omega)]; omega
    exact ⟨(remV_of h1 h2).symm, rfl, G, delAt xs i.toNat 1, .inl ⟨rfl, (fun e => by cases e), by rw [I.calls]; exact g.calls, rfl⟩, g.quiet S2.inv I.fr S2.pcs hl I.calls fun L => I.low 0 L, S2, .inl ⟨rfl, rfl⟩⟩
/-! the calls -/
theorem AS.ptr (X : AS w W hb lb gb mb ab nb v v3 m r G op A B xs ys) : r.ptr = .pointer (some ⟨lb, 0, none⟩) := by unfold Rw.ptr; rw [X.rb]
/-! the document's -/
end
end Go.Proofs.YtdaklffbfadghaaGreat

namespace Go.Proofs.YtdaklffbfadghaaGreat
open Go.RowKit HP
set_option linter.unusedVariables false
set_option linter.unusedSimpArgs false
abbrev Ask3 := Int × Int × Int
def encA (p : Ask3) : List Value := [.int .i64 p.1, .int .i64 p.2.1, .int .i64 p.2.2]
def okI (_ : World) (a : Int) : Prop := (Lit.int .i64 a).wf = true
def okA (_ : World) (p : Ask3) : Prop := (Lit.int .i64 p.1).wf = true ∧ (Lit.int .i64 p.2.1).wf = true ∧ (Lit.int .i64 p.2.2).wf = true
theorem rdI64 : Rdr Tryz.prog 3 1 (encI .i64) okI := Rdr.int Tryz.underlying3 (by kernel_rfl)
theorem rdAct : Rdr Tryz.prog 53 3 encA okA :=
  Rdr.struct Tryz.underlying53 (by kernel_rfl) (by
    refine RdrF.cons (i := 0) (off := 0) (k := 1) (k' := 2) (enc := encI .i64) (enc' := fun p : Int × Int => encI .i64 p.1 ++ encI .i64 p.2) (ok := okI) (ok' := fun (w : World) (p : Int × Int) => okI w p.1 ∧ okI w p.2) (f := _) (hf := rfl) ?_ ?_ ?_
    · rfl
    · exact rdI64
    refine RdrF.cons (i := 1) (off := 1) (k := 1) (k' := 1) (enc := encI .i64) (enc' := encI .i64) (ok := okI) (ok' := okI) (f := _) (hf := rfl) ?_ ?_ ?_
    · rfl
    · exact rdI64
    refine RdrF.one (f := _) (hf := rfl) ?_ ?_
    · rfl
    exact rdI64)
abbrev Pl5 := Int × Int × Int × Int × Int
def encP5 (p : Pl5) : List Value := [.int .i64 p.1, .int .i64 p.2.1, .int .i64 p.2.2.1, .int .i64 p.2.2.2.1, .int .i64 p.2.2.2.2]
def okP5 (w : World) (p : Pl5) : Prop := okI w p.1 ∧ okI w p.2.1 ∧ okI w p.2.2.1 ∧ okI w p.2.2.2.1 ∧ okI w p.2.2.2.2
theorem rdPlace : Rdr Tryz.prog 23 5 encP5 okP5 :=
  Rdr.struct Tryz.underlying23 (by kernel_rfl) (by
    refine RdrF.cons (i := 0) (off := 0) (k := 1) (k' := 4) (enc := encI .i64) (enc' := fun p : Int × Int × Int × Int => encI .i64 p.1 ++ (encI .i64 p.2.1 ++ (encI .i64 p.2.2.1 ++ encI .i64 p.2.2.2))) (ok := okI) (ok' := fun (w : World) (p : Int × Int × Int × Int) => okI w p.1 ∧ okI w p.2.1 ∧ okI w p.2.2.1 ∧ okI w p.2.2.2) (f := _) (hf := rfl) ?_ ?_ ?_
    · rfl
    · exact rdI64
    refine RdrF.cons (i := 1) (off := 1) (k := 1) (k' := 3) (enc := encI .i64) (enc' := fun p : Int × Int × Int => encI .i64 p.1 ++ (encI .i64 p.2.1 ++ encI .i64 p.2.2)) (ok := okI) (ok' := fun (w : World) (p : Int × Int × Int) => okI w p.1 ∧ okI w p.2.1 ∧ okI w p.2.2) (f := _) (hf := rfl) ?_ ?_ ?_
    · rfl
    · exact rdI64
    refine RdrF.cons (i := 2) (off := 2) (k := 1) (k' := 2) (enc := encI .i64) (enc' := fun p : Int × Int => encI .i64 p.1 ++ encI .i64 p.2) (ok := okI) (ok' := fun (w : World) (p : Int × Int) => okI w p.1 ∧ okI w p.2) (f := _) (hf := rfl) ?_ ?_ ?_
    · rfl
    · exact rdI64
    refine RdrF.cons (i := 3) (off := 3) (k := 1) (k' := 1) (enc := encI .i64) (enc' := encI .i64) (ok := okI) (ok' := okI) (f := _) (hf := rfl) ?_ ?_ ?_
    · rfl
    · exact rdI64
    refine RdrF.one (f := _) (hf := rfl) ?_ ?_
    · rfl
    exact rdI64)
instance : Inhabited Ask3 := ⟨(0, 0, 0)⟩
theorem rdActs : Rdr Tryz.prog 24 1 (encV (α := Ask3)) (SlOk 3 encA okA) :=
  Rdr.slice' rdAct (by decide) Tryz.underlying24 (by kernel_rfl) (show Tryz.prog.bytesOf 53 = 24 by kernel_rfl) (by decide)
theorem Sl.ask {w : World} {A : Option Addr} {n c : Nat} {xs : List Ask3} (h : Sl 3 encA w A n c xs) (i : Nat) (hi : i < n) :
    ∃ b o op a1 b1, A = some ⟨b, o, none⟩ ∧ b < w.heap.size ∧ xs[i]? = some (op, a1, b1) ∧ w.cell? ⟨b, o + i * 3, none⟩ = some (.int .i64 op) ∧ w.cell? ⟨b, o + i * 3 + 1, none⟩ = some (.int .i64 a1) ∧ w.cell? ⟨b, o + i * 3 + 2, none⟩ = some (.int .i64 b1) := by
  obtain ⟨b, o, ⟨op, a1, b1⟩, e, hb, hx, hc⟩ := h.at_ (fun _ => rfl) (by decide) i hi
  exact ⟨b, o, op, a1, b1, e, hb, hx, by simpa using hc 0 _ rfl, hc 1 _ rfl, hc 2 _ rfl⟩
section
variable {P : Program} {t e size bytes : Nat} {w : World} {base : Nat} {ops : Array Oper} {rest : List Oper} {o : Oper} {a : Act} {Q' : Exit → Act → World → Prop} {v : Value} {n : Nat} {xs : List Value}
/-- append of another slice's elements to a row that is not nil: the new one is not nil -/
theorem wpList_appsn (hgd : o.guard = none) (E : El P t e size bytes) (s x : Operand) (ho : o.op = .call { callee := .builtin .append, args := #[s, x], argTypes := #[t, t] })
    (hs : a.eval s = v) (hown : w.ownsRow base e size v n xs) (hne : v ≠ .slice none 0 0) {A : Option Addr} {m c B : Nat} {news : List Value} (hx : a.eval x = .slice A m c) (hA : A = none → m = 0 ∧ c = 0) (hl : news.length = m * size) (hr : Rd w B A news) (h1 : ∀ u ∈ news, u.oneCell' = true)
    (hb : (n + m) * bytes ≤ 140737488355328) (hbase : base ≤ w.heap.size)
    (h : ∀ v' w', w'.ownsRow base e size v' (n + m) (xs ++ news) → Below base w w' → v' ≠ .slice none 0 0 → wpList P ops Q' rest (a.put o.dst v') w') : wpList P ops Q' (o :: rest) a w := by
  obtain ⟨i, z, hi, hz, hsz, hby, hzs⟩ := E.inf
  rcases A with _ | ad
  · obtain ⟨rfl, rfl⟩ := hA rfl
    have : news = [] := List.eq_nil_of_length_eq_zero (by simpa using hl)
    subst this
    refine wpList_append_own_none hgd s x t ho base e i size E.und hi v n xs hs hown hx (h v w (by simpa using hown) (Below.refl _ _) hne)
  · have hle : n + m ≤ (n + m) * bytes := Nat.le_mul_of_pos_right _ E.bpos
    refine wpList_append_own _ hgd s x t ho base e i z size bytes E.und hi hz hsz hby hzs E.pos v n xs hs hown ad m c news hx hl (fun j u hu => ?_) h1 (by simp only [maxLen]; omega) hb hbase (fun v' w' h2 h3 h4 => h v' w' h2 (below_own hown h3 hbase) fun e => hne (h4.1 e).1)
    rcases hr with rfl | ⟨b, o, h2, _, h3⟩
    · simp at hu
    · obtain rfl := Option.some.inj h2
      rw [addr_add]
      exact h3 j u hu
end
theorem box_ne {w : World} {b B : Nat} {cs : Array Value} {f : Nat × Nat} {v : Value} {n : Nat} {xs : List Value} (hb : w.heap[b]? = some (.cells cs 47 f)) (h : w.ownsRow B 3 1 v n xs) : v.ownBlock ≠ some b := fun e => by
  obtain ⟨c2, h2⟩ := own_blk h e
  rw [hb] at h2
  injection h2 with h2
  injection h2 with _ h3 _
  exact absurd h3 (by decide)
theorem own_some {w : World} {base : Nat} {e : TypeId} {size : Nat} {v : Value} {n : Nat} {xs : List Value} (h : w.ownsRow base e size v n xs) (hn : v ≠ .slice none 0 0) : ∃ g c, v = .slice (some ⟨g, 0, none⟩) n c := by
  rcases h.2 with ⟨h0, -⟩ | ⟨g, cap, cur, h0, -⟩
  · exact absurd h0 hn
  · exact ⟨g, cap, h0⟩
/-- between two rounds of ListPlays -/
def PX (w : World) (hb lb gb mb : Nat) (i : Nat) (xs : List Int) (v : Value) (W : World) : Prop := ∃ (m : HM) (r : Rw) (G : Gd), r.blk = lb ∧ G.blk = gb ∧ LG w W hb m r G (fun b => b = mb ∨ v.ownBlock = some b) ∧ W.heap[mb]? = some (.cells #[v] 47 (0, 0)) ∧ W.ownsRow w.heap.size 3 1 v xs.length (intsV xs) ∧ LstR m r xs ∧ GI m 1 r.ps xs.length G i
def PR (w : World) (hb lb gb mb n : Nat) (i : Nat) (W : World) : Prop := ∃ (v : Value) (m : HM) (r : Rw) (G : Gd) (xs : List Int), r.blk = lb ∧ G.blk = gb ∧ LG w W hb m r G (fun b => b = mb ∨ v.ownBlock = some b) ∧ W.heap[mb]? = some (.cells #[v] 47 (0, 0)) ∧ W.ownsRow w.heap.size 3 1 v xs.length (intsV xs) ∧ LstR m r xs ∧ GI m 1 r.ps xs.length G i ∧ i ≤ n
theorem act_cells {wr w9 : World} {op a b : Int} (q : Q (wr.alloc (.cells #[.int .i64 op, .int .i64 a, .int .i64 b] 53)) w9) : w9.cell? ⟨wr.heap.size, 0, none⟩ = some (.int .i64 op) ∧ w9.cell? ⟨wr.heap.size, 1, none⟩ = some (.int .i64 a) ∧ w9.cell? ⟨wr.heap.size, 2, none⟩ = some (.int .i64 b) ∧ wr.heap.size < w9.heap.size := by
  have h0 := heap_alloc_new wr (.cells #[.int .i64 op, .int .i64 a, .int .i64 b] 53)
  have h1 : w9.heap[wr.heap.size]? = some (.cells #[.int .i64 op, .int .i64 a, .int .i64 b] 53 (0, 0)) := (q.below.block _ (blk_lt h0)).trans h0
  refine ⟨?_, ?_, ?_, blk_lt h1⟩
  all_goals (rw [cell_of_row _ _ _ _ _ _ h1]; rfl)
/-- the model takes the next one's row -/
theorem AS.take {w W : World} {hb lb gb mb ab nb k : Nat} {v v3 : Value} {m : HM} {r : Rw} {G : Gd} {op A B : Int} {xs ys : List Int} (X : AS w W hb lb gb mb ab nb v v3 m r G op A B xs ys) (S : LstR m r ys) (g : GI m 1 r.ps ys.length G k) : PX w hb lb gb mb k ys v3 (W.setCell ⟨mb, 0, none⟩ v3) := by
  have hl := blk_lt X.mbox
  have hn := box_ne X.mbox X.nown
  have t : Turn (fun b => b = mb) W (W.setCell ⟨mb, 0, none⟩ v3) := (Turn.refl (fun b => b = mb) W).set (p := ⟨mb, 0, none⟩) rfl v3
  refine ⟨m, r, G, X.rb, X.gk, X.lg.turn t (fun b e => .inl e) (fun b e => .inl (e.elim .inl fun e => .inr (.inr (.inr (.inr e))))), ?_, own_same X.nown fun b e => heap_setCell_other _ _ _ _ fun e2 => hn (by rw [e]; exact congrArg some e2), S, g⟩
  have := heap_setCell_same W mb 0 _ _ v3 X.mbox
  rw [this]
  rfl
theorem PX.pr {w W : World} {hb lb gb mb i n : Nat} {xs : List Int} {v : Value} (X : PX w hb lb gb mb i xs v W) (hk : i ≤ n) : PR w hb lb gb mb n i W := by
  obtain ⟨m, r, G, a1, a2, a3, a4, a5, a6, a7⟩ := X
  exact ⟨v, m, r, G, xs, a1, a2, a3, a4, a5, a6, a7, hk⟩
theorem PX.q {w W W' : World} {hb lb gb mb i : Nat} {xs : List Int} {v : Value} (X : PX w hb lb gb mb i xs v W) (hq : Q W W') : PX w hb lb gb mb i xs v W' := by
  obtain ⟨m, r, G, a1, a2, a3, a4, a5, a6, a7⟩ := X
  exact ⟨m, r, G, a1, a2, a3.q' hq, (hq.below.block _ (blk_lt a4)).trans a4, own_q a5 hq, a6, a7⟩
theorem PX.k {w W : World} {hb lb gb mb i : Nat} {xs : List Int} {v : Value} (X : PX w hb lb gb mb i xs v W) : W.cell? ⟨mb, 0, none⟩ = some v := by
  obtain ⟨m, r, G, a1, a2, a3, a4, a5, a6, a7⟩ := X
  rw [cell_of_row _ _ _ _ _ _ a4]
  rfl
theorem PX.sl {w W : World} {hb lb gb mb i c : Nat} {xs : List Int} {A : Option Addr} (X : PX w hb lb gb mb i xs (.slice A xs.length c) W) : Sl 1 (encI .i64) W A xs.length c xs := by
  obtain ⟨m, r, G, a1, a2, a3, a4, a5, a6, a7⟩ := X
  exact own_sl rfl a5
theorem PX.len {w W : World} {hb lb gb mb i : Nat} {xs : List Int} {v : Value} (X : PX w hb lb gb mb i xs v W) : xs.length ≤ 64 := by
  obtain ⟨m, r, G, a1, a2, a3, a4, a5, a6, a7⟩ := X
  exact a6.fit64
theorem PR.toQ {w W : World} {hb lb gb mb n i : Nat} (X : PR w hb lb gb mb n i W) : Q w W := by
  obtain ⟨v, m, r, G, xs, -, -, X, -⟩ := X
  exact X.q
end Go.Proofs.YtdaklffbfadghaaGreat

namespace Go.Proofs.YtdaklffbfadghaaGreat
open Go.RowKit
set_option linter.unusedVariables false
set_option linter.unusedSimpArgs false
namespace Ri
/-- the blocks of values of different groups differ -/
def ApD (grp : Nat → Nat) (D : Nat → Prop) (f : Nat → Value) : Prop := ∀ i j, D i → D j → grp i ≠ 0 → grp j ≠ 0 → grp i ≠ grp j → ∀ b, (f i).ownBlock = some b → (f j).ownBlock ≠ some b
/-- a value's block is new, or that of a value of its own group which it waits for -/
def FrD (l : List Oper) (grp : Nat → Nat) (f : Nat → Value) (k : Nat) (w w' : World) (v : Value) : Prop := ∀ b, v.ownBlock = some b → b < w'.heap.size ∧ (w.heap.size ≤ b ∨ ∃ j, dep l.toArray l.length k j = true ∧ grp j = grp k ∧ (f j).ownBlock = some b)
abbrev StepD (grp : Nat → Nat) (P : Program) (R : Exit → Act → World → Prop) (l : List Oper) (a : Act) (w0 : World) (φ : Nat → Value → World → Prop) (k : Nat) (o : Oper) : Prop :=
  o.guard = none ∧ ∀ (f : Nat → Value) (w : World), Q w0 w → (∀ j, dep l.toArray l.length k j = true → φ j (f j) w) → ApD grp (fun j => dep l.toArray l.length k j = true) f → ∀ A : Act, (∀ d i, ((l[i]?).bind (·.dst)) = some d → d < a.tmps.size → A.eval (.tmp d) = f i) → (∀ d, apartD (some d) l = true → A.eval (.tmp d) = a.eval (.tmp d)) → (∀ j, dep l.toArray l.length j k = true → f j = old a l j) →
      o.wp P A w (fun a' w' => ∃ v, a' = A.put o.dst v ∧ Q w w' ∧ φ k v w' ∧ (grp k = 0 ∨ FrD l grp f k w w' v)) R
theorem StepD.g {grp : Nat → Nat} {P : Program} {R : Exit → Act → World → Prop} {l : List Oper} {a : Act} {w0 : World} {φ : Nat → Value → World → Prop} {k : Nat} {o : Oper} (hk : grp k = 0) (h : StepG P R l a w0 φ k o) : StepD grp P R l a w0 φ k o :=
  ⟨h.1, fun f w hq hf hD A hA hB hO => Oper.wp_mono (fun a' w' ⟨v, e, hq, hp⟩ => ⟨v, e, hq, hp, .inl hk⟩) (h.2 f w hq hf A hA hB hO)⟩
theorem made_lastP {P : Program} {id : Nat} {R : Exit → Act → World → Prop} {a : Act} {w : World} {l : List Oper} {ol : Oper} (grp : Nat → Nat) (φ : Nat → Value → World → Prop) (hm : P.follows .mixedOrders = true) (hB : chk l = true) (hl : l.getLast? = some ol)
    (hall : ((List.range l.dropLast.length).all fun j => dep l.toArray l.length l.dropLast.length j) = true) (hg : ol.guard = none)
    (hmono : ∀ i v w1 w2, φ i v w1 → Q w1 w2 → φ i v w2) (hstep : All (StepD grp P R l a w.drew φ) 0 l.dropLast)
    (hend : ∀ f w', Q w w' → (∀ j, j < l.dropLast.length → φ j (f j) w') → ∀ A : Act, A = acts f 0 l a → (∀ d i, ((l[i]?).bind (·.dst)) = some d → d < a.tmps.size → A.eval (.tmp d) = f i) → (∀ d, apartD (some d) l = true → A.eval (.tmp d) = a.eval (.tmp d)) →
      ol.wp P A w' (fun a' w' => ∃ v, a' = A.put ol.dst v ∧ R .normal a' w') R) : (Code.region id l.toArray true).wp P R a w := by
  unfold chk at hB
  rw [Bool.and_eq_true] at hB
  have hd := hB.1
  obtain ⟨l0, hl0⟩ : ∃ l0, l0 = l.dropLast := ⟨_, rfl⟩
  have el : l0 ++ [ol] = l := by
    rw [hl0]
    have hne : l ≠ [] := fun h => by rw [h] at hl; cases hl
    rw [List.getLast?_eq_some_getLast hne] at hl
    rw [← Option.some.inj hl]
    exact List.dropLast_concat_getLast hne
  rw [← hl0] at hall hstep hend
  subst el
  clear hl0 hl
  have hlast : (l0 ++ [ol])[l0.length]? = some ol := by simp
  refine wp_region_any hm ?_
  have hst : a = acts (old a (l0 ++ [ol])) 0 (l0 ++ [ol]) a := start
  have hev : ∀ (f : Nat → Value) d i, (((l0 ++ [ol])[i]?).bind (·.dst)) = some d → d < a.tmps.size → (acts f 0 (l0 ++ [ol]) a).eval (.tmp d) = f i := fun f d i hdi hs => acts_get (l0 ++ [ol]) 0 a hd (Nat.zero_le _) (by simpa using hdi) hs
  have hsame : ∀ (f : Nat → Value) d, apartD (some d) (l0 ++ [ol]) = true → (acts f 0 (l0 ++ [ol]) a).eval (.tmp d) = a.eval (.tmp d) := fun f d hd' => acts_same (l0 ++ [ol]) 0 a hd'
  have key := any (P := P) (ops := (l0 ++ [ol]).toArray) (R := R) (A := fun f => acts f 0 (l0 ++ [ol]) a)
    (fun S f w' => if S l0.length = true then (∀ j, j ≤ l0.length → S j = true) ∧ R .normal (acts f 0 (l0 ++ [ol]) a) w' else Q w.drew w' ∧ (∀ j, j < l0.length → S j = true → φ j (f j) w') ∧ (∀ j, S j = false → f j = old a (l0 ++ [ol]) j) ∧ (∀ j, S j = true → grp j ≠ 0 → ∀ b, (f j).ownBlock = some b → b < w'.heap.size) ∧ ApD grp (fun j => S j = true) f)
    (fun f i o v ho => acts_upd v (l0 ++ [ol]) 0 a hB.1 (Nat.zero_le _) (by simpa using ho)) hB.2
    (fun S f w1 i o ho hSi hdep hwait hJ => by
      have ho' : (l0 ++ [ol])[i]? = some o := by simpa using ho
      have hil : i < l0.length + 1 := by simpa using (List.getElem?_eq_some_iff.1 ho').1
      have hnl : ¬ S l0.length = true := fun h => by
        rw [if_pos h] at hJ
        have := hJ.1 i (by omega)
        rw [hSi] at this
        cases this
      rw [if_neg hnl] at hJ
      by_cases hi : i = l0.length
      · subst hi
        rw [hlast] at ho'
        obtain rfl := Option.some.inj ho'
        have hSj : ∀ j, j < l0.length → S j = true := fun j hj => hdep j (by
          have := List.all_eq_true.1 hall j (List.mem_range.2 hj)
          simpa using this)
        have hu : upd S l0.length true l0.length = true := by simp [upd]
        have hua : ∀ j, j ≤ l0.length → upd S l0.length true j = true := fun j hj => by
          unfold upd
          split
          · rfl
          · exact hSj j (by omega)
        have := hend f w1 (((Q.refl w).drew).trans hJ.1) (fun j hj => hJ.2.1 j hj (hSj j hj)) _ rfl (hev f) (hsame f)
        have hp : ∀ v, (acts f 0 (l0 ++ [ol]) a).put ol.dst v = acts (upd f l0.length v) 0 (l0 ++ [ol]) a := fun v => acts_upd v (l0 ++ [ol]) 0 a hB.1 (Nat.zero_le _) (by simp)
        rw [if_pos (by simp [Region.wanted, hg])]
        refine Oper.wp_mono (fun a' w2 ⟨v, e, hR⟩ => ⟨v, e, ?_⟩) this
        rw [if_pos hu]
        exact ⟨hua, by rw [← hp v, ← e]; exact hR⟩
      · have hil2 : i < l0.length := by omega
        have ho2 : l0[i]? = some o := by rw [List.getElem?_append_left hil2] at ho'; exact ho'
        have hs := all_get hstep ho2
        rw [Nat.zero_add] at hs
        have hdl : ∀ j, dep (l0 ++ [ol]).toArray (l0 ++ [ol]).length i j = true → φ j (f j) w1 := fun j hj => by
          have hSj := hdep j (by simpa using hj)
          refine hJ.2.1 j ?_ hSj
          refine Classical.byContradiction fun hge => ?_
          by_cases e : j = l0.length
          · rw [e] at hSj
            exact hnl hSj
          · exact absurd hj (by rw [dep_far hB.2 _ i j (by simp; omega)]; exact Bool.false_ne_true)
        obtain ⟨h1, h2, h3, h4, h5⟩ := hJ
        have := hs.2 f w1 h1 hdl (fun p q hp hq => h5 p q (hdep p (by simpa using hp)) (hdep q (by simpa using hq))) _ (hev f) (hsame f) (fun j hj => h3 j (hwait j (by simpa using hj)))
        have hu : ¬ upd S i true l0.length = true := by
          unfold upd
          rw [if_neg (by omega)]
          exact hnl
        rw [if_pos (by simp [Region.wanted, hs.1])]
        refine Oper.wp_mono (fun a' w2 ⟨v, e, hq, hφ, hfr⟩ => ⟨v, e, ?_⟩) this
        rw [if_neg hu]
        refine ⟨h1.trans hq, fun j hj hSj => ?_, fun j hSj => ?_, fun j hSj hgj b hb => ?_, fun p q hp hq2 gp gq gpq b hb => ?_⟩
        · unfold upd at hSj ⊢
          by_cases e : j = i
          · rw [if_pos e, e]; exact hφ
          · rw [if_neg e] at hSj ⊢
            exact hmono _ _ _ _ (h2 j hj hSj) hq
        · unfold upd at hSj ⊢
          by_cases e : j = i
          · rw [if_pos e] at hSj; cases hSj
          · rw [if_neg e] at hSj ⊢
            exact h3 j hSj
        · unfold upd at hSj hb
          by_cases e : j = i
          · rw [if_pos e] at hb
            subst e
            rcases hfr with h | h
            · exact absurd h hgj
            · exact (h b hb).1
          · rw [if_neg e] at hSj hb
            exact Nat.lt_of_lt_of_le (h4 j hSj hgj b hb) hq.size
        · have hp1 : upd S i true p = true := hp
          have hq1 : upd S i true q = true := hq2
          clear hp hq2
          unfold upd at hp1 hq1 hb ⊢
          by_cases e1 : p = i
          · subst e1
            have e2 : q ≠ p := fun e => gpq (by rw [e])
            rw [if_pos rfl] at hb
            rw [if_neg e2] at hq1 ⊢
            intro hb2
            rcases hfr with h | h
            · exact gp h
            · rcases (h b hb).2 with h6 | ⟨j, h6, h7, h8⟩
              · have := h4 q hq1 gq b hb2
                omega
              · exact h5 j q (hdep j (by simpa using h6)) hq1 (by rw [h7]; exact gp) gq (by rw [h7]; exact gpq) b h8 hb2
          · rw [if_neg e1] at hp1 hb
            by_cases e2 : q = i
            · subst e2
              rw [if_pos rfl]
              intro hb2
              rcases hfr with h | h
              · exact gq h
              · rcases (h b hb2).2 with h6 | ⟨j, h6, h7, h8⟩
                · have := h4 p hp1 gp b hb
                  omega
                · exact h5 p j hp1 (hdep j (by simpa using h6)) gp (by rw [h7]; exact gq) (by rw [h7]; exact gpq) b hb h8
            · rw [if_neg e2] at hq1 ⊢
              exact h5 p q hp1 hq1 gp gq gpq b hb)
    (fun S f w1 hall' hJ => by
      rw [if_pos (hall' l0.length (by simp))] at hJ
      exact hJ.2)
    (l0 ++ [ol]).toArray.size (Array.replicate (l0 ++ [ol]).toArray.size false) (old a (l0 ++ [ol])) { w with drawn := w.drawn + 1 } (by simp) (by simp) (fun i o ho h => absurd h (by rw [getD_rep]; exact Bool.false_ne_true)) (by
      have hno : ∀ j, ¬ ((Array.replicate (l0 ++ [ol]).toArray.size false).getD j false = true) := fun j => by rw [getD_rep]; exact Bool.false_ne_true
      rw [if_neg (hno _)]
      exact ⟨Q.refl _, fun j hj h => absurd h (hno j), fun j _ => rfl, fun j h => absurd h (hno j), fun p q hp => absurd hp (hno p)⟩)
  rw [← hst] at key
  exact key
end Ri
section
variable {P : Program} {t e size bytes : Nat} {w : World} {base : Nat}
/-- append onto an empty slice without room: the row that was, or a new one -/
theorem run_append_new2 (E : El P t e size bytes) {b0 A : Option Addr} {m c B : Nat} {news : List Value} (hown : w.ownsRow base e size (.slice b0 0 0) 0 []) (hA : A = none → m = 0 ∧ c = 0) (hl : news.length = m * size) (hr : Rd w B A news) (h1 : ∀ u ∈ news, u.oneCell' = true)
    (hb : m * bytes ≤ 140737488355328) (hbase : base ≤ w.heap.size) (ty : TypeId) :
    ∃ v w', (Builtin.append_ #[t, t] ty #[.slice b0 0 0, .slice A m c]).run P w = .ok v w' ∧ w'.ownsRow base e size v m news ∧ Q w w' ∧ ∀ b, v.ownBlock = some b → w.heap.size ≤ b ∨ (Value.slice b0 0 0).ownBlock = some b := by
  obtain ⟨i, z, hi, hz, hsz, hby, hzs⟩ := E.inf
  have hle : m ≤ m * bytes := Nat.le_mul_of_pos_right _ E.bpos
  have hS : Src P i.size t (.slice A m c) m news w := by
    rcases A with _ | ad
    · obtain ⟨rfl, rfl⟩ := hA rfl
      have : news = [] := List.eq_nil_of_length_eq_zero (by simpa using hl)
      subst this
      exact Src.ofNil w E.und 0
    · refine Src.ofSlice w E.und ad m c news (by rw [hsz]; exact hl) (fun j u hu => ?_) h1
      rcases hr with rfl | ⟨b, o, h2, _, h3⟩
      · simp at hu
      · obtain rfl := Option.some.inj h2
        rw [addr_add]
        exact h3 j u hu
  rcases Nat.eq_zero_or_pos m with h0 | h0
  · subst h0
    have : news = [] := List.eq_nil_of_length_eq_zero (by simpa using hl)
    subst this
    exact ⟨_, _, run_append_nothing w t t ty e i E.und hi b0 0 0 (Nat.le_refl _) _ hS, hown, Q.refl w, fun b hb => .inr hb⟩
  · have hf : (Builtin.firstCells i.size 0 (.slice b0 0 0)).run P w.drew = .ok (List.toArray []) w.drew := by
      cases b0 with
      | none => exact run_firstCells_none w.drew i.size 0 0 0
      | some a => exact run_firstCells_some w.drew i.size 0 a 0 0 [] (by simp) (fun j u h => by simp at h)
    have hr2 := run_append_grow_src (P := P) w t t ty e i z E.und hi hz b0 0 0 [] hf _ m news hS (by omega) (by omega) (growslice_fits (by omega) (by rw [hby, Nat.zero_add]; exact hb))
    refine ⟨_, _, hr2, ?_, (Q.refl w).drew.alloc _, fun b hb2 => .inl ?_⟩
    · have hge := grownCap_ge w (0 + m) 0 e
      have hcm : grownCap w (0 + m) 0 e ≤ maxLen := grownCap_le_maxLen w (0 + m) 0 e (by simp only [maxLen]; omega)
      rw [Nat.zero_add] at hge hcm ⊢
      refine ⟨hl, .inr ⟨w.heap.size, _, _, rfl, hbase, heap_alloc_new w.drew _, hge, hcm, ?_, ?_⟩⟩
      · simp only [List.nil_append, Array.size_append, List.size_toArray, size_zeroCells, hzs, hl, ← Nat.add_mul]
        congr 1
        omega
      · simp only [List.nil_append, Array.toList_append]
        rw [← hl]
        exact List.take_left
    · simp [Value.ownBlock] at hb2
      omega
end
/-- the operation, within a region whose values' blocks are told apart -/
theorem Ri.wp_appendD {P : Program} {t e size bytes : Nat} {w : World} {base : Nat} {R : Exit → Act → World → Prop} {o : Oper} {A : Act} {φ : Value → World → Prop} {l : List Oper} {grp : Nat → Nat} {f : Nat → Value} {k jj : Nat} (E : El P t e size bytes) (s x : Operand) (ho : o.op = .call { callee := .builtin .append, args := #[s, x], argTypes := #[t, t] })
    {b0 Ad : Option Addr} {m c B : Nat} {news : List Value} (hs : A.eval s = .slice b0 0 0) (hx : A.eval x = .slice Ad m c) (hown : w.ownsRow base e size (.slice b0 0 0) 0 []) (hA : Ad = none → m = 0 ∧ c = 0) (hl : news.length = m * size) (hr : Rd w B Ad news) (h1 : ∀ u ∈ news, u.oneCell' = true)
    (hb : m * bytes ≤ 140737488355328) (hbase : base ≤ w.heap.size) (hj : dep l.toArray l.length k jj = true) (hgj : grp jj = grp k) (hfj : f jj = .slice b0 0 0) (h : ∀ v w', w'.ownsRow base e size v m news → φ v w') :
    o.wp P A w (fun a' w' => ∃ v, a' = A.put o.dst v ∧ Q w w' ∧ φ v w' ∧ (grp k = 0 ∨ Ri.FrD l grp f k w w' v)) R := by
  obtain ⟨v, w', hr2, h2, h3, h4⟩ := run_append_new2 (P := P) E hown hA hl hr h1 hb hbase o.type
  unfold Oper.wp
  have : (execOp A.eval o).run P w = .ok (.value v) w' := by
    unfold execOp
    simp only [ho, resolve, invoke, builtin, Sem.run_bind, Sem.run_pure, Result.andThen_ok, List.map_toArray, List.map_cons, List.map_nil, hs, hx, hr2]
  rw [this]
  refine ⟨v, rfl, h3, h v w' h2, .inr fun b hvb => ⟨(h2.lt b hvb).2, ?_⟩⟩
  rcases h4 b hvb with e | e
  · exact .inl e
  · exact .inr ⟨jj, hj, hgj, by rw [hfj]; exact e⟩
/-- a struct, made -/
theorem Ri.wp_structD {P : Program} {w : World} {R : Exit → Act → World → Prop} {o : Oper} {A : Act} {φ : Value → World → Prop} {l : List Oper} {grp : Nat → Nat} {f : Nat → Value} {k : Nat} {ty : TypeId} {parts : Array (Nat × Operand)} {cells : Array Value} (hk : grp k = 0) (ho : o.op = .build ty parts) (vals : List (Nat × Value)) (hp : (parts.map fun (i, x) => (i, A.eval x)).toList = vals) (hb : P.built ty vals = some cells) (h : φ (.agg cells) w) :
    o.wp P A w (fun a' w' => ∃ v, a' = A.put o.dst v ∧ Q w w' ∧ φ v w' ∧ (grp k = 0 ∨ Ri.FrD l grp f k w w' v)) R :=
  Oper.wp_mono (fun a' w' ⟨v, e, hq, hp⟩ => ⟨v, e, hq, hp, .inl hk⟩) (Ri.wp_struct ho vals hp hb h)
/-- an empty literal -/
theorem Ri.wp_litD {P : Program} {t e size bytes : Nat} {w : World} {R : Exit → Act → World → Prop} {o : Oper} {A : Act} {φ : Value → World → Prop} {l : List Oper} {grp : Nat → Nat} {f : Nat → Value} {k : Nat} (E : El P t e size bytes) (ho : o.op = .buildSlice t 0 #[]) (h : φ (.slice (some ⟨w.heap.size, 0, none⟩) 0 0) (w.alloc (.cells #[] e))) :
    o.wp P A w (fun a' w' => ∃ v, a' = A.put o.dst v ∧ Q w w' ∧ φ v w' ∧ (grp k = 0 ∨ Ri.FrD l grp f k w w' v)) R := by
  obtain ⟨i, z, hi, hz, hsz, hby, hzs⟩ := E.inf
  unfold Oper.wp
  have : (execOp A.eval o).run P w = .ok (.value (.slice (some ⟨w.heap.size, 0, none⟩) 0 0)) (w.alloc (.cells #[] e)) := by
    unfold execOp
    simp [ho, Instr.buildSlice, run_underlying E.und, sizeOf, typeInfo, hi, Instr.fill, newRow, Sem.run_bind]
    rw [show Array.range 0 = #[] from by simp [Array.range]]
    simp
  rw [this]
  refine ⟨_, rfl, (Q.refl _).alloc _, h, .inr fun b hvb => ?_⟩
  simp [Value.ownBlock] at hvb
  subst hvb
  exact ⟨by simp, .inl (Nat.le_refl _)⟩
end Go.Proofs.YtdaklffbfadghaaGreat
