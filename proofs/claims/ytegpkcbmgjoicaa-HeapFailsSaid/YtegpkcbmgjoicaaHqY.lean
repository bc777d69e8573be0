/- The law HeapKeeps, walked. Conditions: the slices read as acts. -/
import Derived.Test.YtegpkcbmgjoicaaHqX
namespace Go.Proofs.Ytegpkcbmgjoicaa
open Go.RowKit HP
set_option linter.unusedVariables false
theorem own_store {w0 w : World} {g : Nat} {m : HM} (O : Own w0 w g m) (I : Inv m) (at_ b : Int) :
    Calls Try.prog 14 #[.pointer (some ⟨g, 0, none⟩), .int .i64 at_, .int .i64 b] w fun e w' => e = .returned (.int .i64 (storeM m at_ b).2) ∧ Own w0 w' g (storeM m at_ b).1 := by
  obtain ⟨h, rfl, h2, h3, rfl, h5, h6⟩ := O
  refine (store_act h at_ b w h2 I h3).mono ?_
  rintro e w' ⟨h', he, D, hmu, hm⟩
  exact ⟨he, by rw [← hm]; exact Own.did rfl h5 h6 D hmu⟩
theorem own_load {w0 w : World} {g : Nat} {m : HM} (O : Own w0 w g m) (I : Inv m) (at_ : Int) :
    Calls Try.prog 16 #[.pointer (some ⟨g, 0, none⟩), .int .i64 at_] w fun e w' => e = .returned (.tuple #[.int .i64 (loadM m at_).1, .int .i64 (loadM m at_).2]) ∧ Own w0 w' g m := by
  obtain ⟨h, rfl, h2, h3, rfl, h5, h6⟩ := O
  refine (load_act h at_ w h2 I h3).mono ?_
  rintro e w' ⟨h', he, D, hmu, hm⟩
  have O' := Own.did (h := h) rfl h5 h6 D hmu
  rw [hm] at O'
  exact ⟨he, O'⟩
theorem own_failAt {w0 w : World} {g : Nat} {m : HM} (O : Own w0 w g m) (I : Inv m) (k : Int) :
    Calls Try.prog 22 #[.pointer (some ⟨g, 0, none⟩), .int .i64 k] w fun e w' => e = .returned (.int .i64 (failAtM m k).2) ∧ Own w0 w' g (failAtM m k).1 := by
  obtain ⟨h, rfl, h2, h3, rfl, h5, h6⟩ := O
  refine (failAt_act h k w h2 I h3).mono ?_
  rintro e w' ⟨h', he, D, hmu, hm⟩
  exact ⟨he, by rw [← hm]; exact Own.did rfl h5 h6 D hmu⟩
theorem store_calls (m : HM) (at_ b : Int) : (storeM m at_ b).1.calls = m.calls := by
  unfold storeM
  split
  · split
    · rfl
    · split <;> rfl
  · rfl
/-- a heap behind some acts -/
def After (w1 : World) (g : Nat) (L : Int) (m : HM) (wr : World) : Prop := Own w1 wr g m ∧ Inv m ∧ m.calls ≤ L
theorem after_act {w1 wr : World} {g : Nat} {L : Int} {m : HM} (h : After w1 g L m wr) (hL : L ≤ 100000) (op a b : Int) (ha : -9223372036854775808 ≤ a ∧ a ≤ 9223372036854775807) :
    Calls Try.prog 13 #[.pointer (some ⟨g, 0, none⟩), .agg #[.int .i64 op, .int .i64 a, .int .i64 b]] wr fun e w' => e = .returned (.tuple #[.int .i64 (actM m op a b).2.1, .int .i64 (actM m op a b).2.2]) ∧ After w1 g (L + 1) (actM m op a b).1 w' := by
  obtain ⟨O, I, hc⟩ := h
  refine (own_act O I (by omega) op a b ha.1 ha.2).mono ?_
  rintro e w' ⟨he, o⟩
  exact ⟨he, o, act_inv I _ _ _, by have := act_calls m op a b; omega⟩
set_option maxHeartbeats 16000000 in
set_option maxRecDepth 100000 in
theorem keeps_bad (kind size piece at_ b : Int) (A : Option Addr) (n c : Nat) (A2 : Option Addr) (n2 c2 : Nat) (w : World) (hs : shapeB kind size piece = false) : Calls Try.prog 4 #[.agg #[.int .i64 kind, .int .i64 size, .int .i64 piece], .agg #[.slice A n c, .int .i64 at_, .int .i64 b], .slice A2 n2 c2] w fun e w' => e = .returned (.bool true) ∧ Q w w' := by
  have HN : Hid (∀ W, Calls Try.prog 9 #[.int .i64 kind, .int .i64 size, .int .i64 piece] W fun e w' => e = .returned (.tuple #[.pointer none, .int .i64 1]) ∧ Q W w') := fun W => (new_any kind size piece W).mono (by
    rintro e w' (⟨-, h1, h2⟩ | ⟨h1, -⟩)
    · exact ⟨h1, h2⟩
    · rw [hs] at h1; cases h1)
  clear hs
  obtain ⟨wb, hwb⟩ : ∃ wb, (w.alloc (.cells #[.int .i64 kind, .int .i64 size, .int .i64 piece] 32)).alloc (.cells #[.slice A n c, .int .i64 at_, .int .i64 b] 35) = wb := ⟨_, rfl⟩
  have hqb : Q w wb := by rw [← hwb]; exact ((Q.refl w).alloc _).alloc _
  have hs0 : w.heap.size < wb.heap.size := by rw [← hwb]; simp; omega
  have hs1 : w.heap.size + 1 < wb.heap.size := by rw [← hwb]; simp
  have s0 : wb.cell? ⟨w.heap.size, 0, none⟩ = some (.int .i64 kind) := by rw [← hwb, cell_old _ _ _ (by first | (simp; done) | (simp; omega)), cell_new]; rfl
  have s1 : wb.cell? ⟨w.heap.size, 1, none⟩ = some (.int .i64 size) := by rw [← hwb, cell_old _ _ _ (by first | (simp; done) | (simp; omega)), cell_new]; rfl
  have s2 : wb.cell? ⟨w.heap.size, 2, none⟩ = some (.int .i64 piece) := by rw [← hwb, cell_old _ _ _ (by first | (simp; done) | (simp; omega)), cell_new]; rfl
  have e1 : w.heap.size + 1 = (w.alloc (.cells #[.int .i64 kind, .int .i64 size, .int .i64 piece] 32)).heap.size := by simp
  have k0 : wb.cell? ⟨w.heap.size + 1, 0, none⟩ = some (.slice A n c) := by rw [← hwb, e1, cell_new]; rfl
  have k1 : wb.cell? ⟨w.heap.size + 1, 1, none⟩ = some (.int .i64 at_) := by rw [← hwb, e1, cell_new]; rfl
  have k2 : wb.cell? ⟨w.heap.size + 1, 2, none⟩ = some (.int .i64 b) := by rw [← hwb, e1, cell_new]; rfl
  have HWB := hide hwb
  clear hwb e1
  go_enter Try.func4, Try.ntmps4
  go_wp2_with fail
  rw [HWB.out]
  have hxc := ext_cell
  refine wp_region_ext (by kernel_rfl) (by kernel_rfl) ?_
  repeat (go_big_quiet_step ((fail)))
  clear hxc
  refine wpQuiet_nil ?_
  intro wc hwwc
  have hqwc := q_of_ext hwwc
  clear hwwc
  obtain ⟨hcwc, hfwc, hzwc⟩ := hqwc.facts
  try simp at hzwc
  try have hs0wc : w.heap.size < wc.heap.size := by omega
  try have hs1wc : w.heap.size + 1 < wc.heap.size := by omega
  have hqc := hqb.trans hqwc
  have t0 := (hqwc.facts.1 _ 0 hs0).trans s0
  have t1 := (hqwc.facts.1 _ 1 hs0).trans s1
  have t2 := (hqwc.facts.1 _ 2 hs0).trans s2
  clear hcwc hfwc s0 s1 s2 k0 k1 k2
  go_wp2_with fail
  refine (HN.out _).mono ?_
  rintro e w2 ⟨rfl, hqw2⟩
  obtain ⟨hcw2, hfw2, hzw2⟩ := hqw2.facts
  try simp at hzw2
  try have hs0w2 : w.heap.size < w2.heap.size := by omega
  try have hs1w2 : w.heap.size + 1 < w2.heap.size := by omega
  go_wp2_with fail
  refine (known_any _).mono ?_
  rintro e w9 ⟨rfl, hqw9⟩
  obtain ⟨hcw9, hfw9, hzw9⟩ := hqw9.facts
  try simp at hzw9
  try have hs0w9 : w.heap.size < w9.heap.size := by omega
  try have hs1w9 : w.heap.size + 1 < w9.heap.size := by omega
  go_wp2_with fail
  go_ret
  exact ⟨rfl, hqc.trans (hqw2.trans hqw9)⟩
set_option maxHeartbeats 16000000 in
set_option maxRecDepth 100000 in
theorem keeps_long1 (kind size piece at_ b : Int) (A : Option Addr) (n c : Nat) (A2 : Option Addr) (n2 c2 : Nat) (w : World) (hs : shapeB kind size piece = true) (hn : n ≤ 140737488351232) (hl : 320 < n) : Calls Try.prog 4 #[.agg #[.int .i64 kind, .int .i64 size, .int .i64 piece], .agg #[.slice A n c, .int .i64 at_, .int .i64 b], .slice A2 n2 c2] w fun e w' => e = .returned (.bool true) ∧ Q w w' := by
  have HN : Hid (∀ W, Calls Try.prog 9 #[.int .i64 kind, .int .i64 size, .int .i64 piece] W fun e w' => ∃ g, e = .returned (.tuple #[.pointer (some ⟨g, 0, none⟩), .int .i64 0]) ∧ Q W w') := fun W => (own_new hs W).mono (by
    rintro e w' ⟨g, h, O⟩
    exact ⟨g, h, O.toQ⟩)
  have HL : Hid (∀ W, Calls Try.prog 12 #[.slice A n c] W fun e w' => e = .returned (.bool true) ∧ Q W w') := fun W => by
    have := long_any A n c W (by omega)
    rw [decide_eq_true hl] at this
    exact this
  clear hs hn hl
  obtain ⟨wb, hwb⟩ : ∃ wb, (w.alloc (.cells #[.int .i64 kind, .int .i64 size, .int .i64 piece] 32)).alloc (.cells #[.slice A n c, .int .i64 at_, .int .i64 b] 35) = wb := ⟨_, rfl⟩
  have hqb : Q w wb := by rw [← hwb]; exact ((Q.refl w).alloc _).alloc _
  have hs0 : w.heap.size < wb.heap.size := by rw [← hwb]; simp; omega
  have hs1 : w.heap.size + 1 < wb.heap.size := by rw [← hwb]; simp
  have s0 : wb.cell? ⟨w.heap.size, 0, none⟩ = some (.int .i64 kind) := by rw [← hwb, cell_old _ _ _ (by first | (simp; done) | (simp; omega)), cell_new]; rfl
  have s1 : wb.cell? ⟨w.heap.size, 1, none⟩ = some (.int .i64 size) := by rw [← hwb, cell_old _ _ _ (by first | (simp; done) | (simp; omega)), cell_new]; rfl
  have s2 : wb.cell? ⟨w.heap.size, 2, none⟩ = some (.int .i64 piece) := by rw [← hwb, cell_old _ _ _ (by first | (simp; done) | (simp; omega)), cell_new]; rfl
  have e1 : w.heap.size + 1 = (w.alloc (.cells #[.int .i64 kind, .int .i64 size, .int .i64 piece] 32)).heap.size := by simp
  have k0 : wb.cell? ⟨w.heap.size + 1, 0, none⟩ = some (.slice A n c) := by rw [← hwb, e1, cell_new]; rfl
  have k1 : wb.cell? ⟨w.heap.size + 1, 1, none⟩ = some (.int .i64 at_) := by rw [← hwb, e1, cell_new]; rfl
  have k2 : wb.cell? ⟨w.heap.size + 1, 2, none⟩ = some (.int .i64 b) := by rw [← hwb, e1, cell_new]; rfl
  have HWB := hide hwb
  clear hwb e1
  go_enter Try.func4, Try.ntmps4
  go_wp2_with fail
  rw [HWB.out]
  have hxc := ext_cell
  refine wp_region_ext (by kernel_rfl) (by kernel_rfl) ?_
  repeat (go_big_quiet_step ((fail)))
  clear hxc
  refine wpQuiet_nil ?_
  intro wc hwwc
  have hqwc := q_of_ext hwwc
  clear hwwc
  obtain ⟨hcwc, hfwc, hzwc⟩ := hqwc.facts
  try simp at hzwc
  try have hs0wc : w.heap.size < wc.heap.size := by omega
  try have hs1wc : w.heap.size + 1 < wc.heap.size := by omega
  have hqc := hqb.trans hqwc
  have t0 := (hqwc.facts.1 _ 0 hs0).trans s0
  have t1 := (hqwc.facts.1 _ 1 hs0).trans s1
  have t2 := (hqwc.facts.1 _ 2 hs0).trans s2
  clear hcwc hfwc s0 s1 s2 k0 k1 k2
  go_wp2_with fail
  refine (HN.out _).mono ?_
  rintro e w1 ⟨g, rfl, hq1⟩
  go_wp2_with fail
  refine (HL.out _).mono ?_
  rintro e w2 ⟨rfl, hqw2⟩
  obtain ⟨hcw2, hfw2, hzw2⟩ := hqw2.facts
  try simp at hzw2
  try have hs0w2 : w.heap.size < w2.heap.size := by omega
  try have hs1w2 : w.heap.size + 1 < w2.heap.size := by omega
  go_wp2_with fail
  refine (known_any _).mono ?_
  rintro e w9 ⟨rfl, hqw9⟩
  obtain ⟨hcw9, hfw9, hzw9⟩ := hqw9.facts
  try simp at hzw9
  try have hs0w9 : w.heap.size < w9.heap.size := by omega
  try have hs1w9 : w.heap.size + 1 < w9.heap.size := by omega
  go_wp2_with fail
  go_ret
  exact ⟨rfl, hqc.trans (hq1.trans (hqw2.trans hqw9))⟩
set_option maxHeartbeats 16000000 in
set_option maxRecDepth 100000 in
theorem keeps_long2 (kind size piece at_ b : Int) (A : Option Addr) (n c : Nat) (A2 : Option Addr) (n2 c2 : Nat) (w : World) (hs : shapeB kind size piece = true) (hn : n ≤ 140737488351232) (hl : ¬ 320 < n) (hn2 : n2 ≤ 140737488351232) (hl2 : 320 < n2) : Calls Try.prog 4 #[.agg #[.int .i64 kind, .int .i64 size, .int .i64 piece], .agg #[.slice A n c, .int .i64 at_, .int .i64 b], .slice A2 n2 c2] w fun e w' => e = .returned (.bool true) ∧ Q w w' := by
  have HN : Hid (∀ W, Calls Try.prog 9 #[.int .i64 kind, .int .i64 size, .int .i64 piece] W fun e w' => ∃ g, e = .returned (.tuple #[.pointer (some ⟨g, 0, none⟩), .int .i64 0]) ∧ Q W w') := fun W => (own_new hs W).mono (by
    rintro e w' ⟨g, h, O⟩
    exact ⟨g, h, O.toQ⟩)
  have HL : Hid (∀ W, Calls Try.prog 12 #[.slice A n c] W fun e w' => e = .returned (.bool false) ∧ Q W w') := fun W => by
    have := long_any A n c W (by omega)
    rw [decide_eq_false hl] at this
    exact this
  have HL2 : Hid (∀ W, Calls Try.prog 12 #[.slice A2 n2 c2] W fun e w' => e = .returned (.bool true) ∧ Q W w') := fun W => by
    have := long_any A2 n2 c2 W (by omega)
    rw [decide_eq_true hl2] at this
    exact this
  clear hs hn hl hn2 hl2
  obtain ⟨wb, hwb⟩ : ∃ wb, (w.alloc (.cells #[.int .i64 kind, .int .i64 size, .int .i64 piece] 32)).alloc (.cells #[.slice A n c, .int .i64 at_, .int .i64 b] 35) = wb := ⟨_, rfl⟩
  have hqb : Q w wb := by rw [← hwb]; exact ((Q.refl w).alloc _).alloc _
  have hs0 : w.heap.size < wb.heap.size := by rw [← hwb]; simp; omega
  have hs1 : w.heap.size + 1 < wb.heap.size := by rw [← hwb]; simp
  have s0 : wb.cell? ⟨w.heap.size, 0, none⟩ = some (.int .i64 kind) := by rw [← hwb, cell_old _ _ _ (by first | (simp; done) | (simp; omega)), cell_new]; rfl
  have s1 : wb.cell? ⟨w.heap.size, 1, none⟩ = some (.int .i64 size) := by rw [← hwb, cell_old _ _ _ (by first | (simp; done) | (simp; omega)), cell_new]; rfl
  have s2 : wb.cell? ⟨w.heap.size, 2, none⟩ = some (.int .i64 piece) := by rw [← hwb, cell_old _ _ _ (by first | (simp; done) | (simp; omega)), cell_new]; rfl
  have e1 : w.heap.size + 1 = (w.alloc (.cells #[.int .i64 kind, .int .i64 size, .int .i64 piece] 32)).heap.size := by simp
  have k0 : wb.cell? ⟨w.heap.size + 1, 0, none⟩ = some (.slice A n c) := by rw [← hwb, e1, cell_new]; rfl
  have k1 : wb.cell? ⟨w.heap.size + 1, 1, none⟩ = some (.int .i64 at_) := by rw [← hwb, e1, cell_new]; rfl
  have k2 : wb.cell? ⟨w.heap.size + 1, 2, none⟩ = some (.int .i64 b) := by rw [← hwb, e1, cell_new]; rfl
  have HWB := hide hwb
  clear hwb e1
  go_enter Try.func4, Try.ntmps4
  go_wp2_with fail
  rw [HWB.out]
  have hxc := ext_cell
  refine wp_region_ext (by kernel_rfl) (by kernel_rfl) ?_
  repeat (go_big_quiet_step ((fail)))
  clear hxc
  refine wpQuiet_nil ?_
  intro wc hwwc
  have hqwc := q_of_ext hwwc
  clear hwwc
  obtain ⟨hcwc, hfwc, hzwc⟩ := hqwc.facts
  try simp at hzwc
  try have hs0wc : w.heap.size < wc.heap.size := by omega
  try have hs1wc : w.heap.size + 1 < wc.heap.size := by omega
  have hqc := hqb.trans hqwc
  have t0 := (hqwc.facts.1 _ 0 hs0).trans s0
  have t1 := (hqwc.facts.1 _ 1 hs0).trans s1
  have t2 := (hqwc.facts.1 _ 2 hs0).trans s2
  clear hcwc hfwc s0 s1 s2 k0 k1 k2
  go_wp2_with fail
  refine (HN.out _).mono ?_
  rintro e w1 ⟨g, rfl, hq1⟩
  go_wp2_with fail
  refine (HL.out _).mono ?_
  rintro e w2 ⟨rfl, hqw2⟩
  obtain ⟨hcw2, hfw2, hzw2⟩ := hqw2.facts
  try simp at hzw2
  try have hs0w2 : w.heap.size < w2.heap.size := by omega
  try have hs1w2 : w.heap.size + 1 < w2.heap.size := by omega
  go_wp2_with fail
  refine (HL2.out _).mono ?_
  rintro e w3 ⟨rfl, hqw3⟩
  obtain ⟨hcw3, hfw3, hzw3⟩ := hqw3.facts
  try simp at hzw3
  try have hs0w3 : w.heap.size < w3.heap.size := by omega
  try have hs1w3 : w.heap.size + 1 < w3.heap.size := by omega
  go_wp2_with fail
  refine (known_any _).mono ?_
  rintro e w9 ⟨rfl, hqw9⟩
  obtain ⟨hcw9, hfw9, hzw9⟩ := hqw9.facts
  try simp at hzw9
  try have hs0w9 : w.heap.size < w9.heap.size := by omega
  try have hs1w9 : w.heap.size + 1 < w9.heap.size := by omega
  go_wp2_with fail
  go_ret
  exact ⟨rfl, hqc.trans (hq1.trans (hqw2.trans (hqw3.trans hqw9)))⟩
set_option maxHeartbeats 16000000 in
set_option maxRecDepth 100000 in
theorem keeps_good (kind size piece at_ b : Int) (A : Option Addr) (n c : Nat) (A2 : Option Addr) (n2 c2 : Nat) (w : World) (l l2 : List Ask3) (hs : shapeB kind size piece = true) (hS : SlOk 3 encA okA w ⟨A, n, c, l⟩) (hS2 : SlOk 3 encA okA w ⟨A2, n2, c2, l2⟩) (hl : ¬ 320 < n) (hl2 : ¬ 320 < n2) : Calls Try.prog 4 #[.agg #[.int .i64 kind, .int .i64 size, .int .i64 piece], .agg #[.slice A n c, .int .i64 at_, .int .i64 b], .slice A2 n2 c2] w fun e w' => e = .returned (.bool true) ∧ Q w w' := by
  have HS := hide hS
  have HS2 := hide hS2
  have hni : (n : Int) ≤ 320 := by omega
  have hni2 : (n2 : Int) ≤ 320 := by omega
  have HL : Hid (∀ W, Calls Try.prog 12 #[.slice A n c] W fun e w' => e = .returned (.bool false) ∧ Q W w') := fun W => by
    have := long_any A n c W (by omega)
    rw [decide_eq_false hl] at this
    exact this
  have HL2 : Hid (∀ W, Calls Try.prog 12 #[.slice A2 n2 c2] W fun e w' => e = .returned (.bool false) ∧ Q W w') := fun W => by
    have := long_any A2 n2 c2 W (by omega)
    rw [decide_eq_false hl2] at this
    exact this
  have HI0 := hide (newM_inv hs)
  have HN : Hid (∀ W, Calls Try.prog 9 #[.int .i64 kind, .int .i64 size, .int .i64 piece] W fun e w' => ∃ g, e = .returned (.tuple #[.pointer (some ⟨g, 0, none⟩), .int .i64 0]) ∧ Own W w' g (newM kind size piece)) := fun W => own_new hs W
  clear hs hS hS2 hl hl2
  obtain ⟨wb, hwb⟩ : ∃ wb, (w.alloc (.cells #[.int .i64 kind, .int .i64 size, .int .i64 piece] 32)).alloc (.cells #[.slice A n c, .int .i64 at_, .int .i64 b] 35) = wb := ⟨_, rfl⟩
  have hqb : Q w wb := by rw [← hwb]; exact ((Q.refl w).alloc _).alloc _
  have hs0 : w.heap.size < wb.heap.size := by rw [← hwb]; simp; omega
  have hs1 : w.heap.size + 1 < wb.heap.size := by rw [← hwb]; simp
  have s0 : wb.cell? ⟨w.heap.size, 0, none⟩ = some (.int .i64 kind) := by rw [← hwb, cell_old _ _ _ (by first | (simp; done) | (simp; omega)), cell_new]; rfl
  have s1 : wb.cell? ⟨w.heap.size, 1, none⟩ = some (.int .i64 size) := by rw [← hwb, cell_old _ _ _ (by first | (simp; done) | (simp; omega)), cell_new]; rfl
  have s2 : wb.cell? ⟨w.heap.size, 2, none⟩ = some (.int .i64 piece) := by rw [← hwb, cell_old _ _ _ (by first | (simp; done) | (simp; omega)), cell_new]; rfl
  have e1 : w.heap.size + 1 = (w.alloc (.cells #[.int .i64 kind, .int .i64 size, .int .i64 piece] 32)).heap.size := by simp
  have k0 : wb.cell? ⟨w.heap.size + 1, 0, none⟩ = some (.slice A n c) := by rw [← hwb, e1, cell_new]; rfl
  have k1 : wb.cell? ⟨w.heap.size + 1, 1, none⟩ = some (.int .i64 at_) := by rw [← hwb, e1, cell_new]; rfl
  have k2 : wb.cell? ⟨w.heap.size + 1, 2, none⟩ = some (.int .i64 b) := by rw [← hwb, e1, cell_new]; rfl
  have HWB := hide hwb
  clear hwb e1
  go_enter Try.func4, Try.ntmps4
  go_wp2_with fail
  rw [HWB.out]
  have hxc := ext_cell
  refine wp_region_ext (by kernel_rfl) (by kernel_rfl) ?_
  repeat (go_big_quiet_step ((fail)))
  clear hxc
  refine wpQuiet_nil ?_
  intro wc hwwc
  have hqwc := q_of_ext hwwc
  clear hwwc
  obtain ⟨hcwc, hfwc, hzwc⟩ := hqwc.facts
  try simp at hzwc
  try have hs0wc : w.heap.size < wc.heap.size := by omega
  try have hs1wc : w.heap.size + 1 < wc.heap.size := by omega
  have hqc := hqb.trans hqwc
  have t0 := (hqwc.facts.1 _ 0 hs0).trans s0
  have t1 := (hqwc.facts.1 _ 1 hs0).trans s1
  have t2 := (hqwc.facts.1 _ 2 hs0).trans s2
  clear hcwc hfwc s0 s1 s2 k0 k1 k2
  go_wp2_with fail
  refine (HN.out wc).mono ?_
  rintro e w1 ⟨g, rfl, o1⟩
  have O1 := hide o1
  clear o1
  go_wp2_with fail
  refine (HL.out _).mono ?_
  rintro e w2 ⟨rfl, hq2⟩
  have O2 := hide (O1.out.q hq2)
  clear hq2
  go_wp2_with fail
  refine (HL2.out _).mono ?_
  rintro e w3 ⟨rfl, hq3⟩
  have O3 := hide (O2.out.q hq3)
  clear hq3
  go_wp2_with fail
  go_loopw [12] (fun v12 wr => ∃ (i : Nat) (m : HM), v12 = .int .i64 (i : Int) ∧ i ≤ n ∧ Hid (After wc g (i : Int) m wr)) (fun v12 _ => n - (intOf v12).toNat)
  case atStart => exact ⟨0, _, by go_num, Nat.zero_le _, hide ⟨O3.out, HI0.out, Int.le_refl _⟩⟩
  case round =>
    obtain ⟨i, m, rfl, hi, HO⟩ := hrel
    have hq0 : Q wc wr := HO.out.1.toQ
    by_cases hlt : i < n
    · have hd1 : decide ((i : Int) < (n : Int)) = true := by simp; omega
      have hd0 : decide (i < n) = true := by simp; omega
      have hlti : (i : Int) < (n : Int) := by omega
      obtain ⟨bA, oA, op, a1, b1, hA, hbl, hx, x0, x1, x2⟩ := HS.out.sl.ask i hlt
      dsimp only at hA
      subst hA
      have hok := HS.out.all _ (List.mem_of_getElem? hx)
      have ha1 : -9223372036854775808 ≤ a1 ∧ a1 ≤ 9223372036854775807 := okI_b (w := w) hok.2.1
      have hqw := hqc.trans hq0
      have y0 := (hqw.facts.1 bA _ hbl).trans x0
      have y1 := (hqw.facts.1 bA _ hbl).trans x1
      have y2 := (hqw.facts.1 bA _ hbl).trans x2
      have HACT := hide (after_act HO.out (by omega) op a1 b1 ha1)
      obtain ⟨m2, hm2⟩ : ∃ m2, m2 = (actM m op a1 b1).1 := ⟨_, rfl⟩
      obtain ⟨rx, hrx⟩ : ∃ rx, rx = (actM m op a1 b1).2.1 := ⟨_, rfl⟩
      obtain ⟨ry, hry⟩ : ∃ ry, ry = (actM m op a1 b1).2.2 := ⟨_, rfl⟩
      rw [← hm2, ← hrx, ← hry] at HACT
      clear hm2 hrx hry hx hok x0 x1 x2 ha1
      go_wp2_with fail
      refine HACT.out.mono ?_
      rintro e w5 ⟨rfl, o5⟩
      have O5 := hide o5
      clear o5 HACT
      go_wp2_with fail
      go_roundw
      case rel => exact ⟨i + 1, m2, by go_num, by omega, hide (by have := O5.out; push_cast; exact this)⟩
      case measure => simp [intOf] <;> omega
    · have hd1 : decide ((i : Int) < (n : Int)) = false := by simp; omega
      have hd0 : decide (i < n) = false := by simp; omega
      obtain rfl : i = n := by omega
      have HST := hide (own_store HO.out.1 HO.out.2.1 at_ b)
      obtain ⟨m1, hm1⟩ : ∃ m1, m1 = (storeM m at_ b).1 := ⟨_, rfl⟩
      obtain ⟨sy, hsy⟩ : ∃ sy, sy = (storeM m at_ b).2 := ⟨_, rfl⟩
      rw [← hm1, ← hsy] at HST
      have HI1 : Hid (Inv m1) := by rw [hm1]; exact store_inv HO.out.2.1 _ _
      have HC1 : Hid (m1.calls ≤ 400) := by
        have h1 := HO.out.2.2
        rw [hm1]
        refine hide ?_
        rw [store_calls]
        omega
      have HSO : Hid (sy = 0 → (0 ≤ b ∧ b ≤ 255) ∧ ∃ bg, Holds m1 bg at_ b) := fun e => by
        rw [hm1]
        exact hold_store HO.out.2.1 (by rw [← hsy]; exact e)
      clear hm1 hsy
      go_wp2_with fail
      refine HST.out.mono ?_
      rintro e w5 ⟨rfl, o5⟩
      have O5 := hide o5
      have hq5 := o5.toQ
      clear o5 HST
      by_cases hz : sy = 0
      · subst hz
        obtain ⟨hb, bg, hbg⟩ := HSO.out rfl
        have HB := hide hb
        have HG := hide hbg
        have HLV := hide (own_live O5.out HI1.out)
        clear hb hbg HSO
        go_wp2_with fail
        refine HLV.out.mono ?_
        rintro e w6 ⟨v, rfl, ⟨A1, c1, rfl, hsl, -⟩, o6, hq6⟩
        have O6 := hide o6
        have HSL := hide hsl
        clear o6 hsl HLV
        obtain ⟨N, hN⟩ : ∃ N, N = (stretches m1).length := ⟨_, rfl⟩
        rw [← hN] at HSL ⊢
        have HNN := hide hN
        have hN64 : N ≤ 64 := by rw [hN, str_len]; exact HI1.out.len
        have hNi : (N : Int) ≤ 64 := by omega
        clear hN
        go_wp2_with fail
        go_loopw [13, 15] (fun v13 v15 wr => ∃ k : Nat, k ≤ N ∧ v15 = .int .i64 (k : Int) ∧ v13 = .int .i64 (bgF at_ ((stretches m1).take k)) ∧ Q w6 wr) (fun _ v15 _ => N - (intOf v15).toNat)
        case atStart => exact ⟨0, by omega, by go_num, by simp [bgF], Q.refl _⟩
        case round =>
          obtain ⟨k, hk, rfl, rfl, hqr⟩ := hrel
          by_cases hlt : k < N
          · have hd1 : decide ((k : Int) < (N : Int)) = true := by simp; omega
            have hd0 : decide (k < N) = true := by simp; omega
            have hlti : (k : Int) < (N : Int) := by omega
            obtain ⟨bB, oB, p1, p2, hA1, hblB, hxB, z1, z2⟩ := (HSL.out.up hqr).str k hlt
            subst hA1
            have hbt := bgF_take at_ _ k _ hxB
            dsimp only at hbt
            obtain ⟨B0, hB0⟩ : ∃ B0, B0 = bgF at_ ((stretches m1).take k) := ⟨_, rfl⟩
            rw [← hB0] at hbt ⊢
            by_cases hp : p1 ≤ at_
            · have hpd : decide (p1 ≤ at_) = true := by simpa using hp
              rw [if_pos hp] at hbt
              have HBT := hide hbt
              clear hbt hp hB0 hxB
              go_wp2_with fail
              go_roundw
              case rel => exact ⟨k + 1, by omega, by go_num, by rw [HBT.out], hqr⟩
              case measure => simp [intOf] <;> omega
            · have hpd : decide (p1 ≤ at_) = false := by simpa using hp
              rw [if_neg hp] at hbt
              have HBT := hide hbt
              clear hbt hp hB0 hxB
              go_wp2_with fail
              go_roundw
              case rel => exact ⟨k + 1, by omega, by go_num, by rw [HBT.out], hqr⟩
              case measure => simp [intOf] <;> omega
          · have hd1 : decide ((k : Int) < (N : Int)) = false := by simp; omega
            have hd0 : decide (k < N) = false := by simp; omega
            obtain rfl : k = N := by omega
            have hall : bgF at_ ((stretches m1).take k) = bg := by
              rw [List.take_of_length_le (by rw [← HNN.out]; exact Nat.le_refl _)]
              exact bgF_holds HI1.out HG.out
            rw [hall]
            have O7 := hide (O6.out.q hqr)
            clear hall hqr HSL
            go_wp2_with fail
            go_loopw [16] (fun v16 wr => ∃ (i : Nat) (m : HM), v16 = .int .i64 (i : Int) ∧ i ≤ n2 ∧ Hid (After wc g (401 + (i : Int)) m wr) ∧ Hid (Holds m bg at_ b)) (fun v16 _ => n2 - (intOf v16).toNat)
            case atStart => exact ⟨0, m1, by go_num, Nat.zero_le _, hide ⟨O7.out, HI1.out, by have := HC1.out; omega⟩, HG⟩
            case round =>
              obtain ⟨i, m, rfl, hi, HO, HH⟩ := hrel
              have hq0 : Q wc wr := HO.out.1.toQ
              by_cases hlt : i < n2
              · have hd1 : decide ((i : Int) < (n2 : Int)) = true := by simp; omega
                have hd0 : decide (i < n2) = true := by simp; omega
                have hlti : (i : Int) < (n2 : Int) := by omega
                obtain ⟨bA, oA, op, a1, b1, hA, hbl, hx, x0, x1, x2⟩ := HS2.out.sl.ask i hlt
                dsimp only at hA
                subst hA
                have hok := HS2.out.all _ (List.mem_of_getElem? hx)
                have ha1 : -9223372036854775808 ≤ a1 ∧ a1 ≤ 9223372036854775807 := okI_b (w := w) hok.2.1
                have hqw := hqc.trans hq0
                have y0 := (hqw.facts.1 bA _ hbl).trans x0
                have y1 := (hqw.facts.1 bA _ hbl).trans x1
                have y2 := (hqw.facts.1 bA _ hbl).trans x2
                obtain ⟨wd, hwd⟩ : ∃ wd, wr.alloc (.cells #[.int .i64 op, .int .i64 a1, .int .i64 b1] 39) = wd := ⟨_, rfl⟩
                have hqd : Q wr wd := by rw [← hwd]; exact (Q.refl wr).alloc _
                have HOD := hide (And.intro (HO.out.1.q hqd) HO.out.2)
                have HDQ : Hid (∀ o, Q wr (wr.alloc o)) := fun o => (Q.refl wr).alloc o
                have HACT := hide (after_act HOD.out (by omega) op a1 b1 ha1)
                obtain ⟨m2, hm2⟩ : ∃ m2, m2 = (actM m op a1 b1).1 := ⟨_, rfl⟩
                obtain ⟨rx, hrx⟩ : ∃ rx, rx = (actM m op a1 b1).2.1 := ⟨_, rfl⟩
                obtain ⟨ry, hry⟩ : ∃ ry, ry = (actM m op a1 b1).2.2 := ⟨_, rfl⟩
                rw [← hm2, ← hrx, ← hry] at HACT
                have HWD := hide hwd
                have hcase : (op = 3 ∨ (op = 5 ∧ a1 = at_) ∨ ((op = 1 ∨ op = 2) ∧ a1 = bg)) ∨ (¬ op = 3 ∧ (op = 5 → ¬ a1 = at_) ∧ (op = 1 ∨ op = 2 → ¬ a1 = bg)) := by
                  by_cases z1 : op = 3
                  · exact .inl (.inl z1)
                  · by_cases z2 : op = 5
                    · by_cases z3 : a1 = at_
                      · exact .inl (.inr (.inl ⟨z2, z3⟩))
                      · exact .inr ⟨z1, fun _ => z3, fun z4 => by omega⟩
                    · by_cases z5 : op = 1 ∨ op = 2
                      · by_cases z6 : a1 = bg
                        · exact .inl (.inr (.inr ⟨z5, z6⟩))
                        · exact .inr ⟨z1, fun z => absurd z z2, fun _ => z6⟩
                      · exact .inr ⟨z1, fun z => absurd z z2, fun z => absurd z z5⟩
                have HDO : Hid (¬ op = 3 → (op = 5 → ¬ a1 = at_) → (op = 1 ∨ op = 2 → ¬ a1 = bg) → Holds m2 bg at_ b) := fun z1 z2 z3 => by rw [hm2]; exact hold_act HO.out.2.1 HH.out op a1 b1 z1 z2 z3
                have HLD : Hid (∀ W, After wc g (401 + (i : Int) + 1) m2 W → Holds m2 bg at_ b → Calls Try.prog 16 #[.pointer (some ⟨g, 0, none⟩), .int .i64 at_] W fun e w' => e = .returned (.tuple #[.int .i64 b, .int .i64 0]) ∧ Own wc w' g m2) := fun W a hh => by
                  have := own_load a.1 a.2.1 at_
                  rw [hold_load a.2.1 hh HB.out.1] at this
                  exact this
                clear hm2 hrx hry hx hok x0 x1 x2 ha1 hwd hqd hcase
                by_cases z1 : op = 3
                · subst z1
                  clear HACT HDO HLD HWD
                  go_wp2_with fail
                  go_roundw
                  case rel => exact ⟨i + 1, m, by go_num, by omega, hide ⟨HO.out.1.q (HDQ.out _), HO.out.2.1, by have := HO.out.2.2; push_cast; omega⟩, HH⟩
                  case measure => simp [intOf] <;> omega
                · by_cases z2 : op = 5
                  · subst z2
                    by_cases z3 : a1 = at_
                    · have e1 : (a1 == at_) = true := by simpa using z3
                      clear z3 z1
                      clear HACT HDO HLD HWD
                      go_wp2_with fail
                      go_roundw
                      case rel => exact ⟨i + 1, m, by go_num, by omega, hide ⟨HO.out.1.q (HDQ.out _), HO.out.2.1, by have := HO.out.2.2; push_cast; omega⟩, HH⟩
                      case measure => simp [intOf] <;> omega
                    · have e1 : (a1 == at_) = false := by simpa using z3
                      have HH2 := hide (HDO.out z1 (fun _ => z3) (fun z => by omega))
                      clear z3 z1
                      go_wp2_with fail
                      rw [HWD.out]
                      refine HACT.out.mono ?_
                      rintro e w5 ⟨rfl, o5⟩
                      have O5 := hide o5
                      clear o5 HACT
                      go_wp2_with fail
                      refine (HLD.out w5 O5.out HH2.out).mono ?_
                      rintro e w6 ⟨rfl, o6⟩
                      have O6 := hide o6
                      have bb1 : (b != b) = false := by simp
                      clear o6
                      go_wp2_with fail
                      go_roundw
                      case rel => exact ⟨i + 1, m2, by go_num, by omega, hide ⟨O6.out, O5.out.2.1, by have := O5.out.2.2; push_cast; omega⟩, HH2⟩
                      case measure => simp [intOf] <;> omega
                  · by_cases z4 : op = 1
                    · subst z4
                      by_cases z6 : a1 = bg
                      · have e1 : (a1 == bg) = true := by simpa using z6
                        clear z6 z1 z2
                        clear HACT HDO HLD HWD
                        go_wp2_with fail
                        go_roundw
                        case rel => exact ⟨i + 1, m, by go_num, by omega, hide ⟨HO.out.1.q (HDQ.out _), HO.out.2.1, by have := HO.out.2.2; push_cast; omega⟩, HH⟩
                        case measure => simp [intOf] <;> omega
                      · have e1 : (a1 == bg) = false := by simpa using z6
                        have HH2 := hide (HDO.out z1 (fun z => absurd z z2) (fun _ => z6))
                        clear z6 z1 z2
                        go_wp2_with fail
                        rw [HWD.out]
                        refine HACT.out.mono ?_
                        rintro e w5 ⟨rfl, o5⟩
                        have O5 := hide o5
                        clear o5 HACT
                        go_wp2_with fail
                        refine (HLD.out w5 O5.out HH2.out).mono ?_
                        rintro e w6 ⟨rfl, o6⟩
                        have O6 := hide o6
                        have bb1 : (b != b) = false := by simp
                        clear o6
                        go_wp2_with fail
                        go_roundw
                        case rel => exact ⟨i + 1, m2, by go_num, by omega, hide ⟨O6.out, O5.out.2.1, by have := O5.out.2.2; push_cast; omega⟩, HH2⟩
                        case measure => simp [intOf] <;> omega
                    · by_cases z5 : op = 2
                      · subst z5
                        by_cases z6 : a1 = bg
                        · have e1 : (a1 == bg) = true := by simpa using z6
                          clear z6 z1 z2 z4
                          clear HACT HDO HLD HWD
                          go_wp2_with fail
                          go_roundw
                          case rel => exact ⟨i + 1, m, by go_num, by omega, hide ⟨HO.out.1.q (HDQ.out _), HO.out.2.1, by have := HO.out.2.2; push_cast; omega⟩, HH⟩
                          case measure => simp [intOf] <;> omega
                        · have e1 : (a1 == bg) = false := by simpa using z6
                          have HH2 := hide (HDO.out z1 (fun z => absurd z z2) (fun _ => z6))
                          clear z6 z1 z2 z4
                          go_wp2_with fail
                          rw [HWD.out]
                          refine HACT.out.mono ?_
                          rintro e w5 ⟨rfl, o5⟩
                          have O5 := hide o5
                          clear o5 HACT
                          go_wp2_with fail
                          refine (HLD.out w5 O5.out HH2.out).mono ?_
                          rintro e w6 ⟨rfl, o6⟩
                          have O6 := hide o6
                          have bb1 : (b != b) = false := by simp
                          clear o6
                          go_wp2_with fail
                          go_roundw
                          case rel => exact ⟨i + 1, m2, by go_num, by omega, hide ⟨O6.out, O5.out.2.1, by have := O5.out.2.2; push_cast; omega⟩, HH2⟩
                          case measure => simp [intOf] <;> omega
                      · have e3 : (op == 3) = false := by simpa using z1
                        have e5 : (op == 5) = false := by simpa using z2
                        have e6 : (op == 1) = false := by simpa using z4
                        have e7 : (op == 2) = false := by simpa using z5
                        have HH2 := hide (HDO.out z1 (fun z => absurd z z2) (fun z => by omega))
                        clear z1 z2 z4 z5
                        go_wp2_with fail
                        rw [HWD.out]
                        refine HACT.out.mono ?_
                        rintro e w5 ⟨rfl, o5⟩
                        have O5 := hide o5
                        clear o5 HACT
                        go_wp2_with fail
                        refine (HLD.out w5 O5.out HH2.out).mono ?_
                        rintro e w6 ⟨rfl, o6⟩
                        have O6 := hide o6
                        have bb1 : (b != b) = false := by simp
                        clear o6
                        go_wp2_with fail
                        go_roundw
                        case rel => exact ⟨i + 1, m2, by go_num, by omega, hide ⟨O6.out, O5.out.2.1, by have := O5.out.2.2; push_cast; omega⟩, HH2⟩
                        case measure => simp [intOf] <;> omega
              · have hd1 : decide ((i : Int) < (n2 : Int)) = false := by simp; omega
                have hd0 : decide (i < n2) = false := by simp; omega
                obtain rfl : i = n2 := by omega
                go_wp2_with fail
                refine (known_any _).mono ?_
                rintro e w9 ⟨rfl, hqw9⟩
                obtain ⟨hcw9, hfw9, hzw9⟩ := hqw9.facts
                try simp at hzw9
                try have hs0w9 : w.heap.size < w9.heap.size := by omega
                try have hs1w9 : w.heap.size + 1 < w9.heap.size := by omega
                go_wp2_with fail
                go_ret
                exact ⟨rfl, hqc.trans (hq0.trans hqw9)⟩
      · have hz1 : (sy != 0) = true := by simpa using hz
        clear hz HSO
        go_wp2_with fail
        refine (known_any _).mono ?_
        rintro e w9 ⟨rfl, hqw9⟩
        obtain ⟨hcw9, hfw9, hzw9⟩ := hqw9.facts
        try simp at hzw9
        try have hs0w9 : w.heap.size < w9.heap.size := by omega
        try have hs1w9 : w.heap.size + 1 < w9.heap.size := by omega
        go_wp2_with fail
        go_ret
        exact ⟨rfl, hqc.trans (hq5.trans hqw9)⟩
/-- the value with its parts -/
def encK (p : SlV Ask3 × Int × Int) : List Value := encV p.1 ++ (encI .i64 p.2.1 ++ encI .i64 p.2.2)
def okK (w : World) (p : SlV Ask3 × Int × Int) : Prop := SlOk 3 encA okA w p.1 ∧ okI w p.2.1 ∧ okI w p.2.2
theorem rdKept : Rdr Try.prog 35 3 encK okK :=
  Rdr.struct Try.underlying35 (by kernel_rfl) (by
    refine RdrF.cons (i := 0) (off := 0) (k := 1) (k' := 2) (enc := encV) (enc' := fun p : Int × Int => encI .i64 p.1 ++ encI .i64 p.2) (ok := SlOk 3 encA okA) (ok' := fun (w : World) (p : Int × Int) => okI w p.1 ∧ okI w p.2) (f := _) (hf := rfl) ?_ ?_ ?_
    · rfl
    · exact rdAsks
    refine RdrF.cons (i := 1) (off := 1) (k := 1) (k' := 1) (enc := encI .i64) (enc' := encI .i64) (ok := okI) (ok' := okI) (f := _) (hf := rfl) ?_ ?_ ?_
    · rfl
    · exact rdI64
    refine RdrF.one (f := _) (hf := rfl) ?_ ?_
    · rfl
    exact rdI64)
theorem keeps_any (kind size piece : Int) (o : SlV Ask3 × Int × Int) (v2 : SlV Ask3) (w : World) (hO : okK w o) (hS2 : SlOk 3 encA okA w v2) : Calls Try.prog 4 #[.agg #[.int .i64 kind, .int .i64 size, .int .i64 piece], .agg (encK o).toArray, v2.val] w fun e w' => e = .returned (.bool true) ∧ Q w w' := by
  obtain ⟨⟨A, n, c, l⟩, at_, b⟩ := o
  obtain ⟨A2, n2, c2, l2⟩ := v2
  obtain ⟨hS, -, -⟩ := hO
  have h1 := hS.sl.cap
  have h2 := hS.big
  have h3 := hS2.sl.cap
  have h4 := hS2.big
  dsimp only at h1 h2 h3 h4
  show Calls Try.prog 4 #[.agg #[.int .i64 kind, .int .i64 size, .int .i64 piece], .agg #[.slice A n c, .int .i64 at_, .int .i64 b], .slice A2 n2 c2] w _
  cases hs : shapeB kind size piece
  · exact keeps_bad kind size piece at_ b A n c A2 n2 c2 w hs
  · by_cases hl : 320 < n
    · exact keeps_long1 kind size piece at_ b A n c A2 n2 c2 w hs (by omega) hl
    · by_cases hl2 : 320 < n2
      · exact keeps_long2 kind size piece at_ b A n c A2 n2 c2 w hs (by omega) hl (by omega) hl2
      · exact keeps_good kind size piece at_ b A n c A2 n2 c2 w l l2 hs hS hS2 hl hl2
end Go.Proofs.Ytegpkcbmgjoicaa
