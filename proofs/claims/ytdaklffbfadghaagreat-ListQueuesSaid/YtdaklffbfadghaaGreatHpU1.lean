/- What is looked up among the live blocks: closures, slices.IndexFunc and slices.ContainsFunc at them, and small functions. Looking among a heap's live blocks: free, used, holder. find (slices.BinarySearchFunc at the heap's blocks), isAlign. isAlign (slices.Contains at []int), fresh (slices.Repeat), counted. Conditions: as each theorem says. -/
import Derived.Test.YtdaklffbfadghaaGreatHpA
import Derived.IntWalk
import Derived.Test.YtdaklffbfadghaaGreatHpSh
import Derived.Test.YtdaklffbfadghaaGreatBase
namespace Go.Proofs.YtdaklffbfadghaaGreat
open Go.RowKit HP
set_option linter.unusedVariables false
theorem cell_new (w : World) (C : Array Value) (t : TypeId) (j : Nat) : (w.alloc (.cells C t)).cell? ⟨w.heap.size, j, none⟩ = C[j]? := cell_of_row _ _ _ C t (0, 0) (heap_alloc_new w _)
theorem cell_old (w : World) (o : Obj) {b : Nat} (j : Nat) (h : b < w.heap.size) : (w.alloc o).cell? ⟨b, j, none⟩ = w.cell? ⟨b, j, none⟩ := ((Q.refl w).alloc o).facts.1 b j h
theorem Sl.bk {w : World} {A : Option Addr} {n c : Nat} {xs : List Bk} (h : Sl 2 encBk w A n c xs) (i : Nat) (hi : i < n) :
    ∃ b o x, A = some ⟨b, o, none⟩ ∧ b < w.heap.size ∧ xs[i]? = some x ∧ w.cell? ⟨b, o + i * 2, none⟩ = some (.int .i64 x.pb.1) ∧ w.cell? ⟨b, o + i * 2 + 1, none⟩ = some (.slice (some ⟨x.row, 0, none⟩) x.pb.2.length x.cap) := by
  obtain ⟨b, o, x, e, hb, hx, hc⟩ := h.at_ (fun _ => rfl) (by decide) i hi
  exact ⟨b, o, x, e, hb, hx, by simpa using hc 0 _ rfl, hc 1 _ rfl⟩
/-- the first of a list for which a test holds -/
def IdxPost {α : Type} (p : α → Bool) (xs : List α) (w : World) (e : Ending) (w' : World) : Prop :=
  ∃ z : Int, e = .returned (.int .i64 z) ∧ Q w w' ∧ ((z = -1 ∧ xs.any p = false) ∨ ∃ (k : Nat) (x : α), z = (k : Int) ∧ xs[k]? = some x ∧ p x = true ∧ ∀ (j : Nat) (y : α), j < k → xs[j]? = some y → p y = false)
theorem IdxPost.has {α : Type} {p : α → Bool} {xs : List α} {z : Int} (h : (z = -1 ∧ xs.any p = false) ∨ ∃ (k : Nat) (x : α), z = (k : Int) ∧ xs[k]? = some x ∧ p x = true ∧ ∀ (j : Nat) (y : α), j < k → xs[j]? = some y → p y = false) : decide (0 ≤ z) = xs.any p := by
  rcases h with ⟨rfl, h⟩ | ⟨k, x, rfl, hx, hp, _⟩
  · rw [h]; rfl
  · rw [List.any_eq_true.2 ⟨x, List.mem_of_getElem? hx, hp⟩]; simp
/-- where a live block ends -/
theorem end_any (x : Int) (A : Option Addr) (n c : Nat) (w : World) (hx0 : 0 ≤ x) (hx1 : x ≤ 100000) (hn : n ≤ 100000) :
    Calls Tryz.prog 101 #[.agg #[.int .i64 x, .slice A n c]] w fun e w' => e = .returned (.int .i64 (x + (n : Int))) ∧ Q w w' := by
  have hni : (n : Int) ≤ 100000 := by omega
  go_enter Tryz.func101, Tryz.ntmps101
  go_wp2_with fail
  go_ret
  exact ⟨rfl, (Q.refl w).alloc _⟩
theorem isSize_any (n : Int) (w : World) : Calls Tryz.prog 59 #[.int .i64 n] w fun e w' => e = .returned (.bool (decide (1 ≤ n) && decide (n ≤ 4096))) ∧ w = w' := by
  cases h1 : decide (1 ≤ n)
  · go_enter Tryz.func59, Tryz.ntmps59
    go_wp2_with fail
    go_ret
    exact ⟨rfl, rfl⟩
  · cases h2 : decide (n ≤ 4096)
    · go_enter Tryz.func59, Tryz.ntmps59
      go_wp2_with fail
      go_ret
      exact ⟨rfl, rfl⟩
    · go_enter Tryz.func59, Tryz.ntmps59
      go_wp2_with fail
      go_ret
      exact ⟨rfl, rfl⟩
theorem up_any (n m : Int) (w : World) (hn0 : 0 ≤ n) (hn1 : n ≤ 100000) (hm0 : 1 ≤ m) (hm1 : m ≤ 16) : Calls Tryz.prog 173 #[.int .i64 n, .int .i64 m] w fun e w' => e = .returned (.int .i64 ((n + m - 1) / m * m)) ∧ w = w' := by
  have h0 : 0 ≤ (n + m - 1) / m := Int.ediv_nonneg (by omega) (by omega)
  have h1 : (n + m - 1) / m * m ≤ n + m - 1 := Int.ediv_mul_le _ (by omega)
  have h2 : 0 ≤ (n + m - 1) / m * m := Int.mul_nonneg h0 (by omega)
  have hm : m ≠ 0 := by omega
  go_enter Tryz.func173, Tryz.ntmps173
  go_wp2_with fail
  go_ret
  exact ⟨rfl, rfl⟩

/-- a block is over the bytes from 'a' up to below 'b', and is not the one that is left out -/
theorem freeC (x : PB) (A : Option Addr) (n c g1 g2 g3 : Nat) (a b but : Int) (w : World) (hn : x.2.length = n) (hx0 : 0 ≤ x.1) (hx1 : x.1 ≤ 100000) (hn1 : n ≤ 100000) (k1 : w.cell? ⟨g1, 0, none⟩ = some (.int .i64 but)) (k2 : w.cell? ⟨g2, 0, none⟩ = some (.int .i64 b)) (k3 : w.cell? ⟨g3, 0, none⟩ = some (.int .i64 a))
    (hg1 : g1 < w.heap.size) (hg2 : g2 < w.heap.size) (hg3 : g3 < w.heap.size) :
    Calls Tryz.prog 165 #[.agg #[.int .i64 x.1, .slice A n c], .pointer (some ⟨g1, 0, none⟩), .pointer (some ⟨g2, 0, none⟩), .pointer (some ⟨g3, 0, none⟩)] w fun e w' => e = .returned (.bool (clash a b but x)) ∧ Q w w' := by
  obtain ⟨x, bs⟩ := x
  dsimp only at hn hx0 hx1 ⊢
  have hc : clash a b but (x, bs) = (decide (x ≠ but) && (decide (x < b) && decide (a < x + (n : Int)))) := by unfold clash pend; rw [← hn]
  rw [hc]
  clear hc hn
  obtain ⟨y, hy⟩ : ∃ y, y = x + (n : Int) := ⟨_, rfl⟩
  have HE := fun W => hide (end_any x A n c W hx0 hx1 hn1)
  rw [← hy] at HE ⊢
  clear hy
  by_cases h1 : x = but
  · subst h1
    go_enter Tryz.func165, Tryz.ntmps165
    go_wp2_with fail
    have hxc := ext_cell
    refine wp_region_ext (by kernel_rfl) (by kernel_rfl) ?_
    repeat (go_big_quiet_step ((fail)))
    clear hxc
    refine wpQuiet_nil ?_
    intro w1 hww1
    have hqw1 := q_of_ext hww1
    clear hww1
    obtain ⟨hcw1, hfw1, hzw1⟩ := hqw1.facts
    try simp at hzw1
    try have hs0w1 : w.heap.size < w1.heap.size := by omega
    try have hs1w1 : w.heap.size + 1 < w1.heap.size := by omega
    go_wp2_with fail
    go_ret
    exact ⟨by simp, ((Q.refl w).alloc _).trans hqw1⟩
  · have h2 : (x == but) = false := by simpa using h1
    have h3 : (x != but) = true := by simpa using h1
    cases h4 : decide (x < b)
    · go_enter Tryz.func165, Tryz.ntmps165
      go_wp2_with fail
      have hxc := ext_cell
      refine wp_region_ext (by kernel_rfl) (by kernel_rfl) ?_
      repeat (go_big_quiet_step ((fail)))
      clear hxc
      refine wpQuiet_nil ?_
      intro w1 hww1
      have hqw1 := q_of_ext hww1
      clear hww1
      obtain ⟨hcw1, hfw1, hzw1⟩ := hqw1.facts
      try simp at hzw1
      try have hs0w1 : w.heap.size < w1.heap.size := by omega
      try have hs1w1 : w.heap.size + 1 < w1.heap.size := by omega
      go_wp2_with fail
      go_ret
      exact ⟨by simp [h1], ((Q.refl w).alloc _).trans hqw1⟩
    · go_enter Tryz.func165, Tryz.ntmps165
      go_wp2_with fail
      have hxc := ext_cell
      refine wp_region_ext (by kernel_rfl) (by kernel_rfl) ?_
      repeat (go_big_quiet_step (((go_at_call 101; exact ext_call ((HE _).out)))))
      clear hxc
      refine wpQuiet_nil ?_
      intro w1 hww1
      have hqw1 := q_of_ext hww1
      clear hww1
      obtain ⟨hcw1, hfw1, hzw1⟩ := hqw1.facts
      try simp at hzw1
      try have hs0w1 : w.heap.size < w1.heap.size := by omega
      try have hs1w1 : w.heap.size + 1 < w1.heap.size := by omega
      go_wp2_with fail
      go_ret
      exact ⟨by simp [h1], ((Q.refl w).alloc _).trans hqw1⟩
theorem holdC (x : PB) (A : Option Addr) (n c g1 : Nat) (at_ : Int) (w : World) (hn : x.2.length = n) (hx0 : 0 ≤ x.1) (hx1 : x.1 ≤ 100000) (hn1 : n ≤ 100000) (k1 : w.cell? ⟨g1, 0, none⟩ = some (.int .i64 at_)) (hg1 : g1 < w.heap.size) :
    Calls Tryz.prog 100 #[.agg #[.int .i64 x.1, .slice A n c], .pointer (some ⟨g1, 0, none⟩)] w fun e w' => e = .returned (.bool (decide (x.1 ≤ at_) && decide (at_ < pend x))) ∧ Q w w' := by
  obtain ⟨x, bs⟩ := x
  dsimp only at hn hx0 hx1 ⊢
  have hc : pend (x, bs) = x + (n : Int) := by unfold pend; rw [← hn]
  rw [hc]
  clear hc hn
  obtain ⟨y, hy⟩ : ∃ y, y = x + (n : Int) := ⟨_, rfl⟩
  have HE := fun W => hide (end_any x A n c W hx0 hx1 hn1)
  rw [← hy] at HE ⊢
  clear hy
  cases h4 : decide (x ≤ at_)
  · go_enter Tryz.func100, Tryz.ntmps100
    go_wp2_with fail
    have hxc := ext_cell
    refine wp_region_ext (by kernel_rfl) (by kernel_rfl) ?_
    repeat (go_big_quiet_step ((fail)))
    clear hxc
    refine wpQuiet_nil ?_
    intro w1 hww1
    have hqw1 := q_of_ext hww1
    clear hww1
    obtain ⟨hcw1, hfw1, hzw1⟩ := hqw1.facts
    try simp at hzw1
    try have hs0w1 : w.heap.size < w1.heap.size := by omega
    try have hs1w1 : w.heap.size + 1 < w1.heap.size := by omega
    go_wp2_with fail
    go_ret
    exact ⟨by simp, ((Q.refl w).alloc _).trans hqw1⟩
  · go_enter Tryz.func100, Tryz.ntmps100
    go_wp2_with fail
    have hxc := ext_cell
    refine wp_region_ext (by kernel_rfl) (by kernel_rfl) ?_
    repeat (go_big_quiet_step (((go_at_call 101; exact ext_call ((HE _).out)))))
    clear hxc
    refine wpQuiet_nil ?_
    intro w1 hww1
    have hqw1 := q_of_ext hww1
    clear hww1
    obtain ⟨hcw1, hfw1, hzw1⟩ := hqw1.facts
    try simp at hzw1
    try have hs0w1 : w.heap.size < w1.heap.size := by omega
    try have hs1w1 : w.heap.size + 1 < w1.heap.size := by omega
    go_wp2_with fail
    go_ret
    exact ⟨by simp, ((Q.refl w).alloc _).trans hqw1⟩
theorem goneC (x : Int) (A : Option Addr) (n c g1 : Nat) (at_ : Int) (w : World) (k1 : w.cell? ⟨g1, 0, none⟩ = some (.int .i64 at_)) (hg1 : g1 < w.heap.size) :
    Calls Tryz.prog 176 #[.agg #[.int .i64 x, .slice A n c], .pointer (some ⟨g1, 0, none⟩)] w fun e w' => e = .returned (.bool (decide (at_ < x))) ∧ Q w w' := by
  go_enter Tryz.func176, Tryz.ntmps176
  go_wp2_with fail
  go_ret
  exact ⟨rfl, (Q.refl w).alloc _⟩

set_option maxHeartbeats 1000000 in
theorem idx_free (p : Bk → Bool) (p1 p2 p3 : Value) (A : Option Addr) (n c : Nat) (xs : List Bk) (w : World) (h : Sl 2 encBk w A n c xs) (hn : n ≤ 100000)
    (hf : ∀ x, x ∈ xs → ∀ W, Q w W → Calls Tryz.prog 165 #[.agg #[.int .i64 x.pb.1, .slice (some ⟨x.row, 0, none⟩) x.pb.2.length x.cap], p1, p2, p3] W fun e w' => e = .returned (.bool (p x)) ∧ Q W w') :
    Calls Tryz.prog 99 #[.slice A n c, .func (.func 165) #[] #[p1, p2, p3]] w (IdxPost p xs w) := by
  have hl := h.len
  have H := hide h
  have HL := hide hl
  have HF := hide hf
  have hni : (n : Int) ≤ 100000 := by omega
  clear h hl hf
  go_enter Tryz.func99, Tryz.ntmps99
  go_wp2_with fail
  go_loopw [8] (fun vi wr => ∃ i : Nat, i ≤ n ∧ vi = .int .i64 i ∧ (∀ j x, j < i → xs[j]? = some x → p x = false) ∧ Q w wr) (fun vi _ => n - (intOf vi).toNat)
  case atStart => exact ⟨0, by omega, by go_num, fun j x hj => by omega, Q.refl _⟩
  case round =>
    obtain ⟨i, hi, rfl, hall, hq⟩ := hrel
    have HALL := hide hall
    clear hall
    have hsz := hq.size
    by_cases hlt : i < n
    · have hd0 : decide (i < n) = true := by simpa using hlt
      have hd1 : decide ((i : Int) < (n : Int)) = true := by simpa using hlt
      have hlti : (i : Int) < (n : Int) := by omega
      obtain ⟨b1, o1, ⟨⟨at_, bs⟩, row, cap⟩, rfl, hb1, g1, x1, x2⟩ := (H.out.up hq).bk i hlt
      dsimp only at x1 x2
      have hm := List.mem_of_getElem? g1
      have HC := hide (HF.out _ hm)
      have G1 := hide g1
      clear g1 hm
      obtain ⟨m, hm⟩ : ∃ m, m = bs.length := ⟨_, rfl⟩
      rw [← hm] at x2
      have HM := hide hm
      clear hm
      go_wp2_with fail
      refine (Calls.mono (by have := HC.out _ (by first | exact hq | exact hq.drew); rw [← HM.out] at this; exact this) ?_)
      rintro e w3 ⟨rfl, hq3⟩
      have hq2 : Q w w3 := by first | exact hq.trans hq3 | exact hq.drew.trans hq3
      cases hp : p ⟨(at_, bs), row, cap⟩
      · have HP := hide hp
        clear hp x1 x2
        go_wp2_with fail
        go_roundw
        case rel => exact ⟨i + 1, by omega, by go_num, fun j x hj hx => by
          by_cases e : j = i
          · subst e
            rw [G1.out] at hx
            cases hx
            exact HP.out
          · exact HALL.out j x (by omega) hx, hq2⟩
        case measure => simp [intOf] <;> omega
      · have HP := hide hp
        clear hp x1 x2
        go_wp2_with fail
        go_ret
        exact ⟨_, rfl, hq2, .inr ⟨i, _, rfl, G1.out, HP.out, HALL.out⟩⟩
    · have hd0 : decide (i < n) = false := by simpa using hlt
      have hd1 : decide ((i : Int) < (n : Int)) = false := by simpa using hlt
      have ha : xs.any p = false := by
        rw [List.any_eq_false]
        intro x hx
        obtain ⟨j, hj, rfl⟩ := List.getElem_of_mem hx
        have := HALL.out j xs[j] (by have := HL.out; omega) (List.getElem?_eq_getElem hj)
        simp [this]
      have HA := hide ha
      clear ha
      go_wp2_with fail
      go_ret
      exact ⟨_, rfl, hq, .inl ⟨rfl, HA.out⟩⟩

theorem has_free (p : Bk → Bool) (p1 p2 p3 : Value) (A : Option Addr) (n c : Nat) (xs : List Bk) (w : World) (h : Sl 2 encBk w A n c xs) (hn : n ≤ 100000)
    (hf : ∀ x, x ∈ xs → ∀ W, Q w W → Calls Tryz.prog 165 #[.agg #[.int .i64 x.pb.1, .slice (some ⟨x.row, 0, none⟩) x.pb.2.length x.cap], p1, p2, p3] W fun e w' => e = .returned (.bool (p x)) ∧ Q W w') :
    Calls Tryz.prog 164 #[.slice A n c, .func (.func 165) #[] #[p1, p2, p3]] w fun e w' => e = .returned (.bool (xs.any p)) ∧ Q w w' := by
  have HI := hide (idx_free p p1 p2 p3 A n c xs w h hn hf)
  clear h hf
  go_enter Tryz.func164, Tryz.ntmps164
  go_wp2_with fail
  refine HI.out.mono ?_
  rintro e w1 ⟨z, rfl, hq1, hz⟩
  have HZ := hide (IdxPost.has hz)
  clear hz
  go_wp2_with fail
  go_ret
  exact ⟨ret_bool HZ.out, hq1⟩

set_option maxHeartbeats 1000000 in
theorem idx_hold (p : Bk → Bool) (p1 : Value) (A : Option Addr) (n c : Nat) (xs : List Bk) (w : World) (h : Sl 2 encBk w A n c xs) (hn : n ≤ 100000)
    (hf : ∀ x, x ∈ xs → ∀ W, Q w W → Calls Tryz.prog 100 #[.agg #[.int .i64 x.pb.1, .slice (some ⟨x.row, 0, none⟩) x.pb.2.length x.cap], p1] W fun e w' => e = .returned (.bool (p x)) ∧ Q W w') :
    Calls Tryz.prog 99 #[.slice A n c, .func (.func 100) #[] #[p1]] w (IdxPost p xs w) := by
  have hl := h.len
  have H := hide h
  have HL := hide hl
  have HF := hide hf
  have hni : (n : Int) ≤ 100000 := by omega
  clear h hl hf
  go_enter Tryz.func99, Tryz.ntmps99
  go_wp2_with fail
  go_loopw [8] (fun vi wr => ∃ i : Nat, i ≤ n ∧ vi = .int .i64 i ∧ (∀ j x, j < i → xs[j]? = some x → p x = false) ∧ Q w wr) (fun vi _ => n - (intOf vi).toNat)
  case atStart => exact ⟨0, by omega, by go_num, fun j x hj => by omega, Q.refl _⟩
  case round =>
    obtain ⟨i, hi, rfl, hall, hq⟩ := hrel
    have HALL := hide hall
    clear hall
    have hsz := hq.size
    by_cases hlt : i < n
    · have hd0 : decide (i < n) = true := by simpa using hlt
      have hd1 : decide ((i : Int) < (n : Int)) = true := by simpa using hlt
      have hlti : (i : Int) < (n : Int) := by omega
      obtain ⟨b1, o1, ⟨⟨at_, bs⟩, row, cap⟩, rfl, hb1, g1, x1, x2⟩ := (H.out.up hq).bk i hlt
      dsimp only at x1 x2
      have hm := List.mem_of_getElem? g1
      have HC := hide (HF.out _ hm)
      have G1 := hide g1
      clear g1 hm
      obtain ⟨m, hm⟩ : ∃ m, m = bs.length := ⟨_, rfl⟩
      rw [← hm] at x2
      have HM := hide hm
      clear hm
      go_wp2_with fail
      refine (Calls.mono (by have := HC.out _ (by first | exact hq | exact hq.drew); rw [← HM.out] at this; exact this) ?_)
      rintro e w3 ⟨rfl, hq3⟩
      have hq2 : Q w w3 := by first | exact hq.trans hq3 | exact hq.drew.trans hq3
      cases hp : p ⟨(at_, bs), row, cap⟩
      · have HP := hide hp
        clear hp x1 x2
        go_wp2_with fail
        go_roundw
        case rel => exact ⟨i + 1, by omega, by go_num, fun j x hj hx => by
          by_cases e : j = i
          · subst e
            rw [G1.out] at hx
            cases hx
            exact HP.out
          · exact HALL.out j x (by omega) hx, hq2⟩
        case measure => simp [intOf] <;> omega
      · have HP := hide hp
        clear hp x1 x2
        go_wp2_with fail
        go_ret
        exact ⟨_, rfl, hq2, .inr ⟨i, _, rfl, G1.out, HP.out, HALL.out⟩⟩
    · have hd0 : decide (i < n) = false := by simpa using hlt
      have hd1 : decide ((i : Int) < (n : Int)) = false := by simpa using hlt
      have ha : xs.any p = false := by
        rw [List.any_eq_false]
        intro x hx
        obtain ⟨j, hj, rfl⟩ := List.getElem_of_mem hx
        have := HALL.out j xs[j] (by have := HL.out; omega) (List.getElem?_eq_getElem hj)
        simp [this]
      have HA := hide ha
      clear ha
      go_wp2_with fail
      go_ret
      exact ⟨_, rfl, hq, .inl ⟨rfl, HA.out⟩⟩

set_option maxHeartbeats 1000000 in
theorem idx_gone (p : Bk → Bool) (p1 : Value) (A : Option Addr) (n c : Nat) (xs : List Bk) (w : World) (h : Sl 2 encBk w A n c xs) (hn : n ≤ 100000)
    (hf : ∀ x, x ∈ xs → ∀ W, Q w W → Calls Tryz.prog 176 #[.agg #[.int .i64 x.pb.1, .slice (some ⟨x.row, 0, none⟩) x.pb.2.length x.cap], p1] W fun e w' => e = .returned (.bool (p x)) ∧ Q W w') :
    Calls Tryz.prog 99 #[.slice A n c, .func (.func 176) #[] #[p1]] w (IdxPost p xs w) := by
  have hl := h.len
  have H := hide h
  have HL := hide hl
  have HF := hide hf
  have hni : (n : Int) ≤ 100000 := by omega
  clear h hl hf
  go_enter Tryz.func99, Tryz.ntmps99
  go_wp2_with fail
  go_loopw [8] (fun vi wr => ∃ i : Nat, i ≤ n ∧ vi = .int .i64 i ∧ (∀ j x, j < i → xs[j]? = some x → p x = false) ∧ Q w wr) (fun vi _ => n - (intOf vi).toNat)
  case atStart => exact ⟨0, by omega, by go_num, fun j x hj => by omega, Q.refl _⟩
  case round =>
    obtain ⟨i, hi, rfl, hall, hq⟩ := hrel
    have HALL := hide hall
    clear hall
    have hsz := hq.size
    by_cases hlt : i < n
    · have hd0 : decide (i < n) = true := by simpa using hlt
      have hd1 : decide ((i : Int) < (n : Int)) = true := by simpa using hlt
      have hlti : (i : Int) < (n : Int) := by omega
      obtain ⟨b1, o1, ⟨⟨at_, bs⟩, row, cap⟩, rfl, hb1, g1, x1, x2⟩ := (H.out.up hq).bk i hlt
      dsimp only at x1 x2
      have hm := List.mem_of_getElem? g1
      have HC := hide (HF.out _ hm)
      have G1 := hide g1
      clear g1 hm
      obtain ⟨m, hm⟩ : ∃ m, m = bs.length := ⟨_, rfl⟩
      rw [← hm] at x2
      have HM := hide hm
      clear hm
      go_wp2_with fail
      refine (Calls.mono (by have := HC.out _ (by first | exact hq | exact hq.drew); rw [← HM.out] at this; exact this) ?_)
      rintro e w3 ⟨rfl, hq3⟩
      have hq2 : Q w w3 := by first | exact hq.trans hq3 | exact hq.drew.trans hq3
      cases hp : p ⟨(at_, bs), row, cap⟩
      · have HP := hide hp
        clear hp x1 x2
        go_wp2_with fail
        go_roundw
        case rel => exact ⟨i + 1, by omega, by go_num, fun j x hj hx => by
          by_cases e : j = i
          · subst e
            rw [G1.out] at hx
            cases hx
            exact HP.out
          · exact HALL.out j x (by omega) hx, hq2⟩
        case measure => simp [intOf] <;> omega
      · have HP := hide hp
        clear hp x1 x2
        go_wp2_with fail
        go_ret
        exact ⟨_, rfl, hq2, .inr ⟨i, _, rfl, G1.out, HP.out, HALL.out⟩⟩
    · have hd0 : decide (i < n) = false := by simpa using hlt
      have hd1 : decide ((i : Int) < (n : Int)) = false := by simpa using hlt
      have ha : xs.any p = false := by
        rw [List.any_eq_false]
        intro x hx
        obtain ⟨j, hj, rfl⟩ := List.getElem_of_mem hx
        have := HALL.out j xs[j] (by have := HL.out; omega) (List.getElem?_eq_getElem hj)
        simp [this]
      have HA := hide ha
      clear ha
      go_wp2_with fail
      go_ret
      exact ⟨_, rfl, hq, .inl ⟨rfl, HA.out⟩⟩

theorem has_gone (p : Bk → Bool) (p1 : Value) (A : Option Addr) (n c : Nat) (xs : List Bk) (w : World) (h : Sl 2 encBk w A n c xs) (hn : n ≤ 100000)
    (hf : ∀ x, x ∈ xs → ∀ W, Q w W → Calls Tryz.prog 176 #[.agg #[.int .i64 x.pb.1, .slice (some ⟨x.row, 0, none⟩) x.pb.2.length x.cap], p1] W fun e w' => e = .returned (.bool (p x)) ∧ Q W w') :
    Calls Tryz.prog 164 #[.slice A n c, .func (.func 176) #[] #[p1]] w fun e w' => e = .returned (.bool (xs.any p)) ∧ Q w w' := by
  have HI := hide (idx_gone p p1 A n c xs w h hn hf)
  clear h hf
  go_enter Tryz.func164, Tryz.ntmps164
  go_wp2_with fail
  refine HI.out.mono ?_
  rintro e w1 ⟨z, rfl, hq1, hz⟩
  have HZ := hide (IdxPost.has hz)
  clear hz
  go_wp2_with fail
  go_ret
  exact ⟨ret_bool HZ.out, hq1⟩
end Go.Proofs.YtdaklffbfadghaaGreat

namespace Go.Proofs.YtdaklffbfadghaaGreat
open Go.RowKit HP
set_option linter.unusedVariables false
/-- every block begins and ends within bounds -/
def Near (l : List Bk) : Prop := l.length ≤ 100 ∧ ∀ x ∈ l, 0 ≤ x.pb.1 ∧ x.pb.1 ≤ 10000 ∧ x.pb.2.length ≤ 10000
theorem HpR.open_ {w : World} {h : Hp} (H : HpR w h) : ∃ A c, h.lv = .slice A h.bks.length c ∧ Sl 2 encBk w A h.bks.length c h.bks ∧ w.cell? ⟨h.blk, 5, none⟩ = some (.slice A h.bks.length c) ∧ h.blk < w.heap.size := by
  obtain ⟨A, c, e, h1, h2, h3, hr⟩ := own_form H.live
  refine ⟨A, c, e, ?_, ?_, blk_lt H.cells⟩
  · have := H.live
    rw [e] at this
    exact Sl.own this (fun _ => rfl) (by decide)
  · rw [H.cell 5, ← e]
    rfl
theorem any_pb {l : List Bk} {p : PB → Bool} : l.any (fun x => p x.pb) = (l.map (·.pb)).any p := by rw [List.any_map]; rfl
set_option maxHeartbeats 1000000 in
theorem free_any (h : Hp) (a b but : Int) (w : World) (H : HpR w h) (hN : Near h.bks) :
    Calls Tryz.prog 163 #[h.bptr, .int .i64 a, .int .i64 b, .int .i64 but] w fun e w' => e = .returned (.bool (freeB h.size (h.bks.map (·.pb)) a b but)) ∧ Q w w' := by
  obtain ⟨A, c, -, hS, k5, hb⟩ := H.open_
  have k4 : w.cell? ⟨h.blk, 4, none⟩ = some (.int .i64 h.size) := by rw [H.cell 4]; rfl
  obtain ⟨hN1, hN2⟩ := hN
  unfold Hp.bptr freeB
  rw [← any_pb]
  obtain ⟨sz, hsz⟩ : ∃ sz, sz = h.size := ⟨_, rfl⟩
  obtain ⟨g, hg⟩ : ∃ g, g = h.blk := ⟨_, rfl⟩
  obtain ⟨l, hl⟩ : ∃ l, l = h.bks := ⟨_, rfl⟩
  obtain ⟨n, hn⟩ : ∃ n, n = h.bks.length := ⟨_, rfl⟩
  rw [← hn] at hS k5 hN1
  rw [← hl] at hS hN2 ⊢
  rw [← hg] at k4 k5 hb ⊢
  rw [← hsz] at k4 ⊢
  have hmf : ∀ (fn : Fn) (first cap : Array Value) (w : World), (Instr.makeFunc fn first cap).run Tryz.prog w = .ok (.func fn first cap) w := fun _ _ _ _ => rfl
  have H0 : Hid (∀ W, Q w W → ∀ g1 g2 g3, W.cell? ⟨g1, 0, none⟩ = some (.int .i64 but) → W.cell? ⟨g2, 0, none⟩ = some (.int .i64 b) → W.cell? ⟨g3, 0, none⟩ = some (.int .i64 a) → g1 < W.heap.size → g2 < W.heap.size → g3 < W.heap.size →
      Calls Tryz.prog 164 #[.slice A n c, .func (.func 165) #[] #[.pointer (some ⟨g1, 0, none⟩), .pointer (some ⟨g2, 0, none⟩), .pointer (some ⟨g3, 0, none⟩)]] W fun e w' => e = .returned (.bool (l.any fun x => clash a b but x.pb)) ∧ Q W w') := by
    intro W hq g1 g2 g3 c1 c2 c3 l1 l2 l3
    refine has_free (fun x => clash a b but x.pb) _ _ _ A n c l W (hS.up hq) (by omega) (fun x hx W' hq' => ?_)
    obtain ⟨h1, h2, h3⟩ := hN2 x hx
    have hs := hq'.size
    exact freeC x.pb _ _ _ g1 g2 g3 a b but W' rfl h1 (by omega) (by omega) ((hq'.facts.1 g1 0 l1).trans c1) ((hq'.facts.1 g2 0 l2).trans c2) ((hq'.facts.1 g3 0 l3).trans c3) (by omega) (by omega) (by omega)
  obtain ⟨w1, hw1⟩ : ∃ w1, ((w.alloc (.cells #[.int .i64 a] 3)).alloc (.cells #[.int .i64 b] 3)).alloc (.cells #[.int .i64 but] 3) = w1 := ⟨_, rfl⟩
  have hq1 : Q w w1 := by rw [← hw1]; exact ((Q.refl w).alloc _).alloc _ |>.alloc _
  have c5 : w1.cell? ⟨w.heap.size, 0, none⟩ = some (.int .i64 a) := by rw [← hw1, cell_old _ _ _ (by first | (simp; done) | (simp; omega)), cell_old _ _ _ (by first | (simp; done) | (simp; omega)), cell_new]; rfl
  have c6 : w1.cell? ⟨w.heap.size + 1, 0, none⟩ = some (.int .i64 b) := by rw [← hw1, cell_old _ _ _ (by first | (simp; done) | (simp; omega)), show w.heap.size + 1 = (w.alloc (.cells #[.int .i64 a] 3)).heap.size by simp, cell_new]; rfl
  have c7 : w1.cell? ⟨w.heap.size + 1 + 1, 0, none⟩ = some (.int .i64 but) := by rw [← hw1, show w.heap.size + 1 + 1 = ((w.alloc (.cells #[.int .i64 a] 3)).alloc (.cells #[.int .i64 b] 3)).heap.size by simp, cell_new]; rfl
  have k4' := (hq1.facts.1 g 4 hb).trans k4
  have k5' := (hq1.facts.1 g 5 hb).trans k5
  have hs0 : w.heap.size < w1.heap.size := by rw [← hw1]; simp; omega
  have hs1 : w.heap.size + 1 < w1.heap.size := by rw [← hw1]; simp
  have hs2 : w.heap.size + 1 + 1 < w1.heap.size := by rw [← hw1]; simp
  have hb1 : g < w1.heap.size := by omega
  have HW1 := hide hw1
  clear hS hN2 hsz hg hl hn H hw1 k4 k5
  cases h1 : decide (sz < b)
  · go_enter Tryz.func163, Tryz.ntmps163
    go_wp2_with fail
    rw [HW1.out]
    have hxc := ext_cell
    refine wp_region_ext (by kernel_rfl) (by kernel_rfl) ?_
    repeat (go_big_quiet_step ((fail)))
    clear hxc
    refine wpQuiet_nil ?_
    intro w2 hww2
    have hqw2 := q_of_ext hww2
    clear hww2
    obtain ⟨hcw2, hfw2, hzw2⟩ := hqw2.facts
    try simp at hzw2
    try have hs0w2 : w.heap.size < w2.heap.size := by omega
    try have hs1w2 : w.heap.size + 1 < w2.heap.size := by omega
    have k5'' := (hqw2.facts.1 g 5 hb1).trans k5'
    have d5 := (hqw2.facts.1 _ 0 hs0).trans c5
    have d6 := (hqw2.facts.1 _ 0 hs1).trans c6
    have d7 := (hqw2.facts.1 _ 0 hs2).trans c7
    go_wp2_with fail
    refine (H0.out w2 (hq1.trans hqw2) _ _ _ d7 d6 d5 (by omega) (by omega) (by omega)).mono ?_
    rintro e w3 ⟨rfl, hq3⟩
    go_wp2_with fail
    go_ret
    exact ⟨by simp, (hq1.trans hqw2).trans hq3⟩
  · go_enter Tryz.func163, Tryz.ntmps163
    go_wp2_with fail
    rw [HW1.out]
    have hxc := ext_cell
    refine wp_region_ext (by kernel_rfl) (by kernel_rfl) ?_
    repeat (go_big_quiet_step ((fail)))
    clear hxc
    refine wpQuiet_nil ?_
    intro w2 hww2
    have hqw2 := q_of_ext hww2
    clear hww2
    obtain ⟨hcw2, hfw2, hzw2⟩ := hqw2.facts
    try simp at hzw2
    try have hs0w2 : w.heap.size < w2.heap.size := by omega
    try have hs1w2 : w.heap.size + 1 < w2.heap.size := by omega
    go_wp2_with fail
    go_ret
    exact ⟨by simp, hq1.trans hqw2⟩
theorem used_any (h : Hp) (w : World) (H : HpR w h) (hN : Near h.bks) :
    Calls Tryz.prog 65 #[h.bptr] w fun e w' => e = .returned (.int .i64 (used (h.bks.map (·.pb)))) ∧ Q w w' := by
  obtain ⟨A, c, -, hS, k5, hb⟩ := H.open_
  obtain ⟨hN1, hN2⟩ := hN
  unfold Hp.bptr
  obtain ⟨g, hg⟩ : ∃ g, g = h.blk := ⟨_, rfl⟩
  obtain ⟨l, hl⟩ : ∃ l, l = h.bks := ⟨_, rfl⟩
  obtain ⟨n, hn⟩ : ∃ n, n = h.bks.length := ⟨_, rfl⟩
  rw [← hn] at hS k5 hN1
  rw [← hl] at hS hN2 hn ⊢
  rw [← hg] at k5 hb ⊢
  have hni : (n : Int) ≤ 100 := by omega
  have U : ∀ k, 0 ≤ used ((l.map (·.pb)).take k) ∧ used ((l.map (·.pb)).take k) ≤ 1000000 := fun k => by
    refine ⟨used_nonneg _, ?_⟩
    have h1 := used_take_le (l.map (·.pb)) k
    have h2 := used_le (l.map (·.pb)) 10000 (fun x hx => by
      obtain ⟨y, hy, rfl⟩ := List.mem_map.1 hx
      have := (hN2 y hy).2.2
      omega)
    rw [List.length_map, ← hn] at h2
    omega
  have HU := hide U
  have HS := hide hS
  have HN := hide hN2
  have HNl := hide hn
  clear U hS hN2 hn hl hg H
  go_enter Tryz.func65, Tryz.ntmps65
  go_wp2_with fail
  go_loopw [3, 11] (fun vs vi wr => ∃ i : Nat, i ≤ n ∧ vi = .int .i64 i ∧ vs = .int .i64 (used ((l.map (·.pb)).take i)) ∧ Q w wr) (fun _ vi _ => n - (intOf vi).toNat)
  case atStart => exact ⟨0, by omega, by go_num, by simp [used], Q.refl _⟩
  case round =>
    obtain ⟨i, hi, rfl, rfl, hq⟩ := hrel
    have hsz := hq.size
    by_cases hlt : i < n
    · have hd0 : decide (i < n) = true := by simpa using hlt
      have hd1 : decide ((i : Int) < (n : Int)) = true := by simpa using hlt
      have hlti : (i : Int) < (n : Int) := by omega
      obtain ⟨b1, o1, ⟨⟨at_, bs⟩, row, cap⟩, rfl, hb1, g1, x1, x2⟩ := (HS.out.up hq).bk i hlt
      dsimp only at x1 x2
      have hbl := (HN.out _ (List.mem_of_getElem? g1)).2.2
      dsimp only at hbl
      have hu := used_take_succ (l.map (·.pb)) i (at_, bs) (by rw [List.getElem?_map, g1]; rfl)
      dsimp only at hu
      obtain ⟨u0, hu0⟩ : ∃ u0, u0 = used ((l.map (·.pb)).take i) := ⟨_, rfl⟩
      have hu1 := HU.out i
      rw [← hu0] at hu hu1 ⊢
      obtain ⟨m, hm⟩ : ∃ m, m = bs.length := ⟨_, rfl⟩
      rw [← hm] at x2 hbl hu
      have hmi : (m : Int) ≤ 10000 := by omega
      have hmi0 : 0 ≤ (m : Int) := by omega
      obtain ⟨hu2, hu3⟩ := hu1
      have HU1 := hide hu
      have G1 := hide g1
      clear g1 hm hu hu0
      go_wp2_with fail
      go_roundw
      case rel => exact ⟨i + 1, by omega, by go_num, by rw [HU1.out], by first | exact hq.alloc _ | exact hq.drew.alloc _⟩
      case measure => simp [intOf] <;> omega
    · have hd0 : decide (i < n) = false := by simpa using hlt
      have hd1 : decide ((i : Int) < (n : Int)) = false := by simpa using hlt
      obtain rfl : i = n := by omega
      go_wp2_with fail
      go_ret
      exact ⟨ret_int (by rw [List.take_of_length_le (by rw [List.length_map, ← HNl.out]; exact Nat.le_refl _)]), hq⟩
end Go.Proofs.YtdaklffbfadghaaGreat

namespace Go.Proofs.YtdaklffbfadghaaGreat
open Go.RowKit HP
set_option linter.unusedVariables false
/-- the difference of two numbers, wrapped: 0 only where they are equal -/
theorem wrap_zero (x a : Int) (hx : 0 ≤ x) (hx1 : x ≤ 10000) (ha0 : -9223372036854775808 ≤ a) (ha1 : a ≤ 9223372036854775807) : wrap64 (x - a) = 0 ↔ x = a := by
  unfold wrap64
  omega
theorem wrap_neg (x a : Int) (hx : 0 ≤ x) (hx1 : x ≤ 10000) (ha0 : 0 ≤ a) (ha1 : a ≤ 9223372036854775807) : wrap64 (x - a) < 0 ↔ x < a := by
  unfold wrap64
  omega
theorem findC (x : Int) (A : Option Addr) (n c : Nat) (at_ : Int) (w : World) :
    Calls Tryz.prog 121 #[.agg #[.int .i64 x, .slice A n c], .int .i64 at_] w fun e w' => e = .returned (.int .i64 (wrap64 (x - at_))) ∧ Q w w' := by
  go_enter Tryz.func121, Tryz.ntmps121
  go_wp2_with fail
  go_ret
  exact ⟨rfl, (Q.refl w).alloc _⟩
/-- where a block begins at a place, or would -/
def FindPost (l : List PB) (at_ : Int) (w : World) (e : Ending) (w' : World) : Prop :=
  ∃ k : Nat, e = .returned (.tuple #[.int .i64 (k : Int), .bool (has l at_)]) ∧ k ≤ l.length ∧ (0 ≤ at_ → k = below l at_) ∧ Q w w'
set_option maxHeartbeats 2000000 in
set_option maxRecDepth 100000 in
theorem search_any (A : Option Addr) (n c : Nat) (xs : List Bk) (size at_ : Int) (w : World) (h : Sl 2 encBk w A n c xs) (hn : n ≤ 100) (hF : Fit size (xs.map (·.pb))) (ha0 : -9223372036854775808 ≤ at_) (ha1 : at_ ≤ 9223372036854775807) :
    Calls Tryz.prog 120 #[.slice A n c, .int .i64 at_, .func (.func 121) #[] #[]] w (FindPost (xs.map (·.pb)) at_ w) := by
  have hl := h.len
  have H := hide h
  have HL := hide hl
  have HF := hide hF
  have HA0 := hide ha0
  have HA1 := hide ha1
  have hni : (n : Int) ≤ 100 := by omega
  clear h hl hF ha0 ha1
  go_enter Tryz.func120, Tryz.ntmps120
  go_wp2_with fail
  go_loopw [9, 10] (fun vi vj wr => ∃ i j : Nat, i ≤ j ∧ j ≤ n ∧ vi = .int .i64 (i : Int) ∧ vj = .int .i64 (j : Int) ∧ (0 ≤ at_ → (∀ t x, t < i → xs[t]? = some x → x.pb.1 < at_) ∧ (∀ t x, j ≤ t → xs[t]? = some x → at_ ≤ x.pb.1)) ∧ Q w wr) (fun vi vj _ => (intOf vj).toNat - (intOf vi).toNat)
  case atStart => exact ⟨0, n, by omega, by omega, by go_num, rfl, fun _ => ⟨fun t x ht => by omega, fun t x ht hx => by rw [List.getElem?_eq_none (by rw [HL.out]; omega)] at hx; cases hx⟩, Q.refl _⟩
  case round =>
    obtain ⟨i, j, hij, hjn, rfl, rfl, hinv, hq⟩ := hrel
    have HI := hide hinv
    clear hinv
    have hsz := hq.size
    by_cases hlt : i < j
    · have hd0 : decide (i < j) = true := by simpa using hlt
      have hd1 : decide ((i : Int) < (j : Int)) = true := by simpa using hlt
      have hlti : (i : Int) < (j : Int) := by omega
      have hmn : (i + j) / 2 < n := by omega
      obtain ⟨b1, o1, ⟨⟨x, bs⟩, row, cap⟩, rfl, hb1, g1, x1, x2⟩ := (H.out.up hq).bk ((i + j) / 2) hmn
      dsimp only at x1 x2
      have hx := HF.out.inn (x, bs) (List.mem_map.2 ⟨_, List.mem_of_getElem? g1, rfl⟩)
      obtain ⟨hx0, hx1, hx2⟩ := hx
      unfold pend at hx2
      dsimp only at hx0 hx1 hx2
      have hsz4 := HF.out.sz.2
      have hx3 : x ≤ 10000 := by omega
      have G1 := hide g1
      have HX : Hid (0 ≤ at_ → (wrap64 (x - at_) < 0 ↔ x < at_)) := fun h => wrap_neg x at_ hx0 hx3 h HA1.out
      obtain ⟨d, hd⟩ : ∃ d, d = wrap64 (x - at_) := ⟨_, rfl⟩
      have HC : Hid (∀ W, Calls Tryz.prog 121 #[.agg #[.int .i64 x, .slice (some ⟨row, 0, none⟩) bs.length cap], .int .i64 at_] W fun e w' => e = .returned (.int .i64 d) ∧ Q W w') := fun W => by rw [hd]; exact findC x _ _ _ at_ W
      rw [← hd] at HX
      have ord : Hid (∀ t y, t ≤ (i + j) / 2 → xs[t]? = some y → y.pb.1 ≤ x) := fun t y ht hy => by
        rcases Nat.lt_or_eq_of_le ht with h3 | h3
        · have := (HF.out.lt (i := t) (j := (i + j) / 2) (x := y.pb) (y := (x, bs)) (by rw [List.getElem?_map, hy]; rfl) (by rw [List.getElem?_map, G1.out]; rfl) h3).1
          dsimp only at this
          omega
        · rw [h3, G1.out] at hy
          cases hy
          exact Int.le_refl _
      have ord2 : Hid (∀ t y, (i + j) / 2 ≤ t → xs[t]? = some y → x ≤ y.pb.1) := fun t y ht hy => by
        rcases Nat.lt_or_eq_of_le ht with h3 | h3
        · have := (HF.out.lt (i := (i + j) / 2) (j := t) (x := (x, bs)) (y := y.pb) (by rw [List.getElem?_map, G1.out]; rfl) (by rw [List.getElem?_map, hy]; rfl) h3).1
          dsimp only at this
          omega
        · rw [← h3, G1.out] at hy
          cases hy
          exact Int.le_refl _
      clear g1 hd hx0 hx1 hx2 hsz4 hx3
      by_cases hneg : d < 0
      · go_wp2_with (go_at_call 121; refine (HC.out _).mono ?_; rintro e w3 ⟨rfl, hq3⟩)
        go_roundw
        case rel => exact ⟨(i + j) / 2 + 1, j, by omega, hjn, by rw [show ((i : Int) + (j : Int)) / 2 + 1 = (((i + j) / 2 + 1 : Nat) : Int) by omega], rfl, fun h0 => ⟨fun t y ht hy => by
            have h1 := ord.out t y (by omega) hy
            have h2 := (HX.out h0).1 hneg
            omega, (HI.out h0).2⟩, by first | exact hq.trans hq3 | exact hq.drew.trans hq3⟩
        case measure => simp [intOf] <;> omega
      · go_wp2_with (go_at_call 121; refine (HC.out _).mono ?_; rintro e w3 ⟨rfl, hq3⟩)
        go_roundw
        case rel => exact ⟨i, (i + j) / 2, by omega, by omega, rfl, by rw [show ((i : Int) + (j : Int)) / 2 = (((i + j) / 2 : Nat) : Int) by omega], fun h0 => ⟨(HI.out h0).1, fun t y ht hy => by
            have h1 := ord2.out t y ht hy
            have h2 := mt (HX.out h0).2 (by omega)
            omega⟩, by first | exact hq.trans hq3 | exact hq.drew.trans hq3⟩
        case measure => simp [intOf] <;> omega
    · obtain rfl : i = j := by omega
      have hd0 : decide (i < i) = false := by simp
      have hbelow : Hid (0 ≤ at_ → i = below (xs.map (·.pb)) at_) := fun h0 => by
        refine (below_eq HF.out at_ i (by rw [List.length_map, HL.out]; exact hjn) (fun t y ht hy => ?_) (fun t y ht hy => ?_)).symm
        · rw [List.getElem?_map] at hy
          obtain ⟨z, hz, rfl⟩ := Option.map_eq_some_iff.1 hy
          exact (HI.out h0).1 t z ht hz
        · rw [List.getElem?_map] at hy
          obtain ⟨z, hz, rfl⟩ := Option.map_eq_some_iff.1 hy
          exact (HI.out h0).2 t z ht hz
      have hneg : Hid (at_ < 0 → has (xs.map (·.pb)) at_ = false) := fun h0 => by
        unfold has
        rw [List.any_eq_false]
        intro y hy
        have := (HF.out.inn y hy).1
        simp
        omega
      by_cases hin : i < n
      · have hd1 : decide ((i : Int) < (n : Int)) = true := by simpa using hin
        have hd2 : decide (i < n) = true := by simpa using hin
        have hlti : (i : Int) < (n : Int) := by omega
        obtain ⟨b1, o1, ⟨⟨x, bs⟩, row, cap⟩, rfl, hb1, g1, x1, x2⟩ := (H.out.up hq).bk i hin
        dsimp only at x1 x2
        have hx := HF.out.inn (x, bs) (List.mem_map.2 ⟨_, List.mem_of_getElem? g1, rfl⟩)
        obtain ⟨hx0, hx1, hx2⟩ := hx
        unfold pend at hx2
        dsimp only at hx0 hx1 hx2
        have hsz4 := HF.out.sz.2
        have hz := wrap_zero x at_ hx0 (by omega) HA0.out HA1.out
        have HR : Hid (has (xs.map (·.pb)) at_ = (wrap64 (x - at_) == 0)) := by
          rw [Bool.eq_iff_iff]
          constructor
          · intro hh
            have h0 : 0 ≤ at_ := by
              rcases Int.lt_or_le at_ 0 with h | h
              · rw [hneg.out h] at hh; cases hh
              · exact h
            obtain ⟨y, hy, he⟩ := (has_iff HF.out at_).1 hh
            rw [← hbelow.out h0, List.getElem?_map, g1] at hy
            cases hy
            simp [hz.2 he]
          · intro hh
            have he : x = at_ := hz.1 (by simpa using hh)
            unfold has
            rw [List.any_eq_true]
            exact ⟨(x, bs), List.mem_map.2 ⟨_, List.mem_of_getElem? g1, rfl⟩, by simpa using he⟩
        obtain ⟨d, hd⟩ : ∃ d, d = wrap64 (x - at_) := ⟨_, rfl⟩
        have HC : Hid (∀ W, Calls Tryz.prog 121 #[.agg #[.int .i64 x, .slice (some ⟨row, 0, none⟩) bs.length cap], .int .i64 at_] W fun e w' => e = .returned (.int .i64 d) ∧ Q W w') := fun W => by rw [hd]; exact findC x _ _ _ at_ W
        rw [← hd] at HR
        have hnl : Hid (n = (xs.map (·.pb)).length) := by rw [List.length_map]; exact HL.out.symm
        clear g1 hd hx0 hx1 hx2 hsz4 hz
        by_cases hdz : d = 0
        · subst hdz
          go_wp2_with (go_at_call 121; refine (HC.out _).mono ?_; rintro e w3 ⟨rfl, hq3⟩)
          go_ret2
          exact ⟨i, by rw [HR.out]; first | rfl | (simp; done), by rw [← hnl.out]; exact hjn, hbelow.out, by first | exact hq.trans hq3 | exact hq.drew.trans hq3⟩
        · have hdz0 : (d == 0) = false := by simpa using hdz
          go_wp2_with (go_at_call 121; refine (HC.out _).mono ?_; rintro e w3 ⟨rfl, hq3⟩)
          go_ret2
          exact ⟨i, by rw [HR.out]; first | rfl | (simp [hdz]; done), by rw [← hnl.out]; exact hjn, hbelow.out, by first | exact hq.trans hq3 | exact hq.drew.trans hq3⟩
      · have hd1 : decide ((i : Int) < (n : Int)) = false := by simpa using hin
        have hd2 : decide (i < n) = false := by simpa using hin
        have HR : Hid (has (xs.map (·.pb)) at_ = false) := by
          cases hh : has (xs.map (·.pb)) at_ with
          | false => rfl
          | true =>
            have h0 : 0 ≤ at_ := by
              rcases Int.lt_or_le at_ 0 with h | h
              · rw [hneg.out h] at hh; cases hh
              · exact h
            obtain ⟨y, hy, he⟩ := (has_iff HF.out at_).1 hh
            rw [← hbelow.out h0, List.getElem?_eq_none (by rw [List.length_map, HL.out]; omega)] at hy
            cases hy
        have hnl : Hid (n = (xs.map (·.pb)).length) := by rw [List.length_map]; exact HL.out.symm
        go_wp2_with fail
        go_ret2
        exact ⟨i, by rw [HR.out]; try rfl, by rw [← hnl.out]; exact hjn, hbelow.out, hq⟩
theorem find_any (h : Hp) (at_ : Int) (w : World) (H : HpR w h) (hn : h.bks.length ≤ 100) (hF : Fit h.size (h.bks.map (·.pb))) (ha0 : -9223372036854775808 ≤ at_) (ha1 : at_ ≤ 9223372036854775807) :
    Calls Tryz.prog 96 #[h.bptr, .int .i64 at_] w (FindPost (h.bks.map (·.pb)) at_ w) := by
  obtain ⟨A, c, -, hS, k5, hb⟩ := H.open_
  have HC := hide (search_any A _ c h.bks h.size at_ w hS hn hF ha0 ha1)
  unfold Hp.bptr
  obtain ⟨g, hg⟩ : ∃ g, g = h.blk := ⟨_, rfl⟩
  obtain ⟨n, hn'⟩ : ∃ n, n = h.bks.length := ⟨_, rfl⟩
  rw [← hn'] at k5 HC
  rw [← hg] at k5 hb ⊢
  clear hS hn' hg H hF hn
  go_enter Tryz.func96, Tryz.ntmps96
  go_wp2_with fail
  refine HC.out.mono ?_
  rintro e w1 ⟨k, rfl, hk, hb1, hq⟩
  have HK := hide hb1
  clear hb1
  go_wp2_with fail
  go_ret2
  exact ⟨k, rfl, hk, HK.out, hq⟩
end Go.Proofs.YtdaklffbfadghaaGreat

namespace Go.Proofs.YtdaklffbfadghaaGreat
open Go.RowKit HP
set_option linter.unusedVariables false
def encN (x : Int) : List Value := [.int .i64 x]
def IdxI (x : Int) (xs : List Int) (w : World) (e : Ending) (w' : World) : Prop := ∃ z : Int, e = .returned (.int .i64 z) ∧ decide (0 ≤ z) = xs.any (· == x) ∧ Q w w'
set_option maxHeartbeats 1000000 in
theorem index_any (A : Option Addr) (n c : Nat) (xs : List Int) (x : Int) (w : World) (h : Sl 1 encN w A n c xs) (hn : n ≤ 100000) :
    Calls Tryz.prog 119 #[.slice A n c, .int .i64 x] w (IdxI x xs w) := by
  have H := hide h
  have HL := hide h.len
  have hni : (n : Int) ≤ 100000 := by omega
  clear h
  go_enter Tryz.func119, Tryz.ntmps119
  go_wp2_with fail
  go_loopw [8] (fun vi wr => ∃ i : Nat, i ≤ n ∧ vi = .int .i64 i ∧ (∀ j y, j < i → xs[j]? = some y → (y == x) = false) ∧ Q w wr) (fun vi _ => n - (intOf vi).toNat)
  case atStart => exact ⟨0, by omega, by go_num, fun j x hj => by omega, Q.refl _⟩
  case round =>
    obtain ⟨i, hi, rfl, hall, hq⟩ := hrel
    have HALL := hide hall
    clear hall
    have hsz := hq.size
    by_cases hlt : i < n
    · have hd0 : decide (i < n) = true := by simpa using hlt
      have hd1 : decide ((i : Int) < (n : Int)) = true := by simpa using hlt
      have hlti : (i : Int) < (n : Int) := by omega
      obtain ⟨b1, o1, y, rfl, hb1, g1, hc⟩ := (H.out.up hq).at_ (fun _ => rfl) (by decide) i hlt
      have x1 : wr.cell? ⟨b1, o1 + i, none⟩ = some (.int .i64 y) := by simpa using hc 0 _ rfl
      have G1 := hide g1
      clear g1 hc
      by_cases he : x = y
      · have he1 : (x == y) = true := by simpa using he
        have HE : Hid (xs.any (· == x) = true) := List.any_eq_true.2 ⟨y, List.mem_of_getElem? G1.out, by simp [he]⟩
        clear he
        go_wp2_with fail
        go_ret
        exact ⟨_, rfl, by rw [HE.out]; simp, hq⟩
      · have he1 : (x == y) = false := by simpa using he
        have HE : Hid ((y == x) = false) := hide (by simpa using Ne.symm he)
        clear he
        go_wp2_with fail
        go_roundw
        case rel => exact ⟨i + 1, by omega, by go_num, fun j z hj hz => by
          by_cases e : j = i
          · subst e
            rw [G1.out] at hz
            cases hz
            exact HE.out
          · exact HALL.out j z (by omega) hz, by first | exact hq | exact hq.drew⟩
        case measure => simp [intOf] <;> omega
    · have hd0 : decide (i < n) = false := by simpa using hlt
      have hd1 : decide ((i : Int) < (n : Int)) = false := by simpa using hlt
      have ha : xs.any (· == x) = false := by
        rw [List.any_eq_false]
        intro y hy
        obtain ⟨j, hj, rfl⟩ := List.getElem_of_mem hy
        have := HALL.out j xs[j] (by have := HL.out; omega) (List.getElem?_eq_getElem hj)
        simp [this]
      have HA := hide ha
      clear ha
      go_wp2_with fail
      go_ret
      exact ⟨_, rfl, by rw [HA.out]; rfl, hq⟩
theorem contains_any (A : Option Addr) (n c : Nat) (xs : List Int) (x : Int) (w : World) (h : Sl 1 encN w A n c xs) (hn : n ≤ 100000) :
    Calls Tryz.prog 95 #[.slice A n c, .int .i64 x] w fun e w' => e = .returned (.bool (xs.any (· == x))) ∧ Q w w' := by
  have HI := hide (index_any A n c xs x w h hn)
  clear h
  go_enter Tryz.func95, Tryz.ntmps95
  go_wp2_with fail
  refine HI.out.mono ?_
  rintro e w1 ⟨z, rfl, hz, hq1⟩
  have HZ := hide hz
  clear hz
  go_wp2_with fail
  go_ret
  exact ⟨ret_bool HZ.out, hq1⟩
def alignB (a : Int) : Bool := [1, 2, 4, 8, 16].any fun x : Int => x == a
theorem isAlign_any (a : Int) (w : World) : Calls Tryz.prog 60 #[.int .i64 a] w fun e w' => e = .returned (.bool (alignB a)) ∧ Q w w' := by
  obtain ⟨w1, hw1⟩ : ∃ w1, w.alloc (.cells #[.int .i64 1, .int .i64 2, .int .i64 4, .int .i64 8, .int .i64 16] 3) = w1 := ⟨_, rfl⟩
  have hq1 : Q w w1 := by rw [← hw1]; exact (Q.refl w).alloc _
  have hS : Sl 1 encN w1 (some ⟨w.heap.size, 0, none⟩) 5 5 [1, 2, 4, 8, 16] := by
    refine ⟨.inr ⟨w.heap.size, 0, rfl, by rw [← hw1]; simp, fun j u hu => ?_⟩, rfl, by decide, by decide⟩
    rw [← hw1, Nat.zero_add, cell_new, ← hu]
    simp [encN]
  have HC := hide (contains_any _ 5 5 [1, 2, 4, 8, 16] a w1 hS (by decide))
  have HW := hide hw1
  clear hw1 hS
  unfold alignB
  go_enter Tryz.func60, Tryz.ntmps60
  go_wp2_with fail
  rw [HW.out]
  refine HC.out.mono ?_
  rintro e w2 ⟨rfl, hq2⟩
  go_wp2_with fail
  go_ret
  exact ⟨ret_bool (by simp [List.any]), hq1.trans hq2⟩
end Go.Proofs.YtdaklffbfadghaaGreat
