/- What is looked up among the live blocks: closures, slices.IndexFunc and slices.ContainsFunc at them, and small functions. Looking among a heap's live blocks: free, used, holder. find (slices.BinarySearchFunc at the heap's blocks), isAlign. isAlign (slices.Contains at []int), fresh (slices.Repeat), counted. fresh: slices.Repeat of one number. slices.Insert of one live block. slices.Insert of one live block: where there is no room; and all its ways. slices.Delete of one live block. room: where bytes can be handed out, for each kind of heap. Conditions: as each theorem says. -/
import Derived.Test.YtdaklffbfadghaaGreatTm3
import Derived.IntWalk
import Derived.Test.YtdaklffbfadghaaGreatHpSh
import Derived.Test.YtdaklffbfadghaaGreatTm1
import Derived.Lib.AppendZerosOnto
import Derived.Lib.Overlaps
import Derived.Deep.RegionLaw
namespace Go.Proofs.YtdaklffbfadghaaGreat
open Go.RowKit HP
set_option linter.unusedVariables false
theorem cell_new (w : World) (C : Array Value) (t : TypeId) (j : Nat) : (w.alloc (.cells C t)).cell? ⟨w.heap.size, j, none⟩ = C[j]? := cell_of_row _ _ _ C t (0, 0) (heap_alloc_new w _)
theorem cell_old (w : World) (o : Obj) {b : Nat} (j : Nat) (h : b < w.heap.size) : (w.alloc o).cell? ⟨b, j, none⟩ = w.cell? ⟨b, j, none⟩ := ((Q.refl w).alloc o).facts.1 b j h
theorem Sl.bk {w : World} {A : Option Addr} {n c : Nat} {xs : List Bk} (h : Sl 2 encBk w A n c xs) (i : Nat) (hi : i < n) :
    ∃ b o x, A = some ⟨b, o, none⟩ ∧ b < w.heap.size ∧ xs[i]? = some x ∧ w.cell? ⟨b, o + i * 2, none⟩ = some (.int .i64 x.pb.1) ∧ w.cell? ⟨b, o + i * 2 + 1, none⟩ = some (.slice (some ⟨x.row, 0, none⟩) x.pb.2.length x.cap) := by
  obtain ⟨b, o, x, e, hb, hx, hc⟩ := h.at_ (fun _ => rfl) (by decide) i hi
  exact ⟨b, o, x, e, hb, hx, by simpa using hc 0 _ rfl, hc 1 _ rfl⟩
/-- the first of a list for which a test holds -/
def IdxPost {α : Type} (p : α → Bool) (xs : List α) (w : World) (e : Ending) (w' : World) : Prop :=
  ∃ z : Int, e = .returned (.int .i64 z) ∧ Q w w' ∧ ((z = -1 ∧ xs.any p = false) ∨ ∃ (k : Nat) (x : α), z = (k : Int) ∧ xs[k]? = some x ∧ p x = true ∧ ∀ (j : Nat) (y : α), j < k → xs[j]? = some y → p y = false)
theorem IdxPost.has {α : Type} {p : α → Bool} {xs : List α} {z : Int} (h : (z = -1 ∧ xs.any p = false) ∨ ∃ (k : Nat) (x : α), z = (k : Int) ∧ xs[k]? = some x ∧ p x = true ∧ ∀ (j : Nat) (y : α), j < k → xs[j]? = some y → p y = false) : decide (0 ≤ z) = xs.any p := by
  rcases h with ⟨rfl, h⟩ | ⟨k, x, rfl, hx, hp, _⟩
  · rw [h]; rfl
  · rw [List.any_eq_true.2 ⟨x, List.mem_of_getElem? hx, hp⟩]; simp
/-- where a live block ends -/
theorem end_any (x : Int) (A : Option Addr) (n c : Nat) (w : World) (hx0 : 0 ≤ x) (hx1 : x ≤ 100000) (hn : n ≤ 100000) :
    Calls Tryz.prog 101 #[.agg #[.int .i64 x, .slice A n c]] w fun e w' => e = .returned (.int .i64 (x + (n : Int))) ∧ Q w w' := by
  have hni : (n : Int) ≤ 100000 := by omega
  go_enter Tryz.func101, Tryz.ntmps101
  go_wp2_with fail
  go_ret
  exact ⟨rfl, (Q.refl w).alloc _⟩
theorem isSize_any (n : Int) (w : World) : Calls Tryz.prog 59 #[.int .i64 n] w fun e w' => e = .returned (.bool (decide (1 ≤ n) && decide (n ≤ 4096))) ∧ w = w' := by
  cases h1 : decide (1 ≤ n)
  · go_enter Tryz.func59, Tryz.ntmps59
    go_wp2_with fail
    go_ret
    exact ⟨rfl, rfl⟩
  · cases h2 : decide (n ≤ 4096)
    · go_enter Tryz.func59, Tryz.ntmps59
      go_wp2_with fail
      go_ret
      exact ⟨rfl, rfl⟩
    · go_enter Tryz.func59, Tryz.ntmps59
      go_wp2_with fail
      go_ret
      exact ⟨rfl, rfl⟩
theorem up_any (n m : Int) (w : World) (hn0 : 0 ≤ n) (hn1 : n ≤ 100000) (hm0 : 1 ≤ m) (hm1 : m ≤ 16) : Calls Tryz.prog 173 #[.int .i64 n, .int .i64 m] w fun e w' => e = .returned (.int .i64 ((n + m - 1) / m * m)) ∧ w = w' := by
  have h0 : 0 ≤ (n + m - 1) / m := Int.ediv_nonneg (by omega) (by omega)
  have h1 : (n + m - 1) / m * m ≤ n + m - 1 := Int.ediv_mul_le _ (by omega)
  have h2 : 0 ≤ (n + m - 1) / m * m := Int.mul_nonneg h0 (by omega)
  have hm : m ≠ 0 := by omega
  go_enter Tryz.func173, Tryz.ntmps173
  go_wp2_with fail
  go_ret
  exact ⟨rfl, rfl⟩

/-- a block is over the bytes from 'a' up to below 'b', and is not the one that is left out -/
theorem freeC (x : PB) (A : Option Addr) (n c g1 g2 g3 : Nat) (a b but : Int) (w : World) (hn : x.2.length = n) (hx0 : 0 ≤ x.1) (hx1 : x.1 ≤ 100000) (hn1 : n ≤ 100000) (k1 : w.cell? ⟨g1, 0, none⟩ = some (.int .i64 but)) (k2 : w.cell? ⟨g2, 0, none⟩ = some (.int .i64 b)) (k3 : w.cell? ⟨g3, 0, none⟩ = some (.int .i64 a))
    (hg1 : g1 < w.heap.size) (hg2 : g2 < w.heap.size) (hg3 : g3 < w.heap.size) :
    Calls Tryz.prog 165 #[.agg #[.int .i64 x.1, .slice A n c], .pointer (some ⟨g1, 0, none⟩), .pointer (some ⟨g2, 0, none⟩), .pointer (some ⟨g3, 0, none⟩)] w fun e w' => e = .returned (.bool (clash a b but x)) ∧ Q w w' := by
  obtain ⟨x, bs⟩ := x
  dsimp only at hn hx0 hx1 ⊢
  have hc : clash a b but (x, bs) = (decide (x ≠ but) && (decide (x < b) && decide (a < x + (n : Int)))) := by unfold clash pend; rw [← hn]
  rw [hc]
  clear hc hn
  obtain ⟨y, hy⟩ : ∃ y, y = x + (n : Int) := ⟨_, rfl⟩
  have HE := fun W => hide (end_any x A n c W hx0 hx1 hn1)
  rw [← hy] at HE ⊢
  clear hy
  by_cases h1 : x = but
  · subst h1
    go_enter Tryz.func165, Tryz.ntmps165
    go_wp2_with fail
    have hxc := ext_cell
    refine wp_region_ext (by kernel_rfl) (by kernel_rfl) ?_
    repeat (go_big_quiet_step ((fail)))
    clear hxc
    refine wpQuiet_nil ?_
    intro w1 hww1
    have hqw1 := q_of_ext hww1
    clear hww1
    obtain ⟨hcw1, hfw1, hzw1⟩ := hqw1.facts
    try simp at hzw1
    try have hs0w1 : w.heap.size < w1.heap.size := by omega
    try have hs1w1 : w.heap.size + 1 < w1.heap.size := by omega
    go_wp2_with fail
    go_ret
    exact ⟨by simp, ((Q.refl w).alloc _).trans hqw1⟩
  · have h2 : (x == but) = false := by simpa using h1
    have h3 : (x != but) = true := by simpa using h1
    cases h4 : decide (x < b)
    · go_enter Tryz.func165, Tryz.ntmps165
      go_wp2_with fail
      have hxc := ext_cell
      refine wp_region_ext (by kernel_rfl) (by kernel_rfl) ?_
      repeat (go_big_quiet_step ((fail)))
      clear hxc
      refine wpQuiet_nil ?_
      intro w1 hww1
      have hqw1 := q_of_ext hww1
      clear hww1
      obtain ⟨hcw1, hfw1, hzw1⟩ := hqw1.facts
      try simp at hzw1
      try have hs0w1 : w.heap.size < w1.heap.size := by omega
      try have hs1w1 : w.heap.size + 1 < w1.heap.size := by omega
      go_wp2_with fail
      go_ret
      exact ⟨by simp [h1], ((Q.refl w).alloc _).trans hqw1⟩
    · go_enter Tryz.func165, Tryz.ntmps165
      go_wp2_with fail
      have hxc := ext_cell
      refine wp_region_ext (by kernel_rfl) (by kernel_rfl) ?_
      repeat (go_big_quiet_step (((go_at_call 101; exact ext_call ((HE _).out)))))
      clear hxc
      refine wpQuiet_nil ?_
      intro w1 hww1
      have hqw1 := q_of_ext hww1
      clear hww1
      obtain ⟨hcw1, hfw1, hzw1⟩ := hqw1.facts
      try simp at hzw1
      try have hs0w1 : w.heap.size < w1.heap.size := by omega
      try have hs1w1 : w.heap.size + 1 < w1.heap.size := by omega
      go_wp2_with fail
      go_ret
      exact ⟨by simp [h1], ((Q.refl w).alloc _).trans hqw1⟩
theorem holdC (x : PB) (A : Option Addr) (n c g1 : Nat) (at_ : Int) (w : World) (hn : x.2.length = n) (hx0 : 0 ≤ x.1) (hx1 : x.1 ≤ 100000) (hn1 : n ≤ 100000) (k1 : w.cell? ⟨g1, 0, none⟩ = some (.int .i64 at_)) (hg1 : g1 < w.heap.size) :
    Calls Tryz.prog 100 #[.agg #[.int .i64 x.1, .slice A n c], .pointer (some ⟨g1, 0, none⟩)] w fun e w' => e = .returned (.bool (decide (x.1 ≤ at_) && decide (at_ < pend x))) ∧ Q w w' := by
  obtain ⟨x, bs⟩ := x
  dsimp only at hn hx0 hx1 ⊢
  have hc : pend (x, bs) = x + (n : Int) := by unfold pend; rw [← hn]
  rw [hc]
  clear hc hn
  obtain ⟨y, hy⟩ : ∃ y, y = x + (n : Int) := ⟨_, rfl⟩
  have HE := fun W => hide (end_any x A n c W hx0 hx1 hn1)
  rw [← hy] at HE ⊢
  clear hy
  cases h4 : decide (x ≤ at_)
  · go_enter Tryz.func100, Tryz.ntmps100
    go_wp2_with fail
    have hxc := ext_cell
    refine wp_region_ext (by kernel_rfl) (by kernel_rfl) ?_
    repeat (go_big_quiet_step ((fail)))
    clear hxc
    refine wpQuiet_nil ?_
    intro w1 hww1
    have hqw1 := q_of_ext hww1
    clear hww1
    obtain ⟨hcw1, hfw1, hzw1⟩ := hqw1.facts
    try simp at hzw1
    try have hs0w1 : w.heap.size < w1.heap.size := by omega
    try have hs1w1 : w.heap.size + 1 < w1.heap.size := by omega
    go_wp2_with fail
    go_ret
    exact ⟨by simp, ((Q.refl w).alloc _).trans hqw1⟩
  · go_enter Tryz.func100, Tryz.ntmps100
    go_wp2_with fail
    have hxc := ext_cell
    refine wp_region_ext (by kernel_rfl) (by kernel_rfl) ?_
    repeat (go_big_quiet_step (((go_at_call 101; exact ext_call ((HE _).out)))))
    clear hxc
    refine wpQuiet_nil ?_
    intro w1 hww1
    have hqw1 := q_of_ext hww1
    clear hww1
    obtain ⟨hcw1, hfw1, hzw1⟩ := hqw1.facts
    try simp at hzw1
    try have hs0w1 : w.heap.size < w1.heap.size := by omega
    try have hs1w1 : w.heap.size + 1 < w1.heap.size := by omega
    go_wp2_with fail
    go_ret
    exact ⟨by simp, ((Q.refl w).alloc _).trans hqw1⟩
theorem goneC (x : Int) (A : Option Addr) (n c g1 : Nat) (at_ : Int) (w : World) (k1 : w.cell? ⟨g1, 0, none⟩ = some (.int .i64 at_)) (hg1 : g1 < w.heap.size) :
    Calls Tryz.prog 176 #[.agg #[.int .i64 x, .slice A n c], .pointer (some ⟨g1, 0, none⟩)] w fun e w' => e = .returned (.bool (decide (at_ < x))) ∧ Q w w' := by
  go_enter Tryz.func176, Tryz.ntmps176
  go_wp2_with fail
  go_ret
  exact ⟨rfl, (Q.refl w).alloc _⟩

set_option maxHeartbeats 1000000 in
theorem idx_free (p : Bk → Bool) (p1 p2 p3 : Value) (A : Option Addr) (n c : Nat) (xs : List Bk) (w : World) (h : Sl 2 encBk w A n c xs) (hn : n ≤ 100000)
    (hf : ∀ x, x ∈ xs → ∀ W, Q w W → Calls Tryz.prog 165 #[.agg #[.int .i64 x.pb.1, .slice (some ⟨x.row, 0, none⟩) x.pb.2.length x.cap], p1, p2, p3] W fun e w' => e = .returned (.bool (p x)) ∧ Q W w') :
    Calls Tryz.prog 99 #[.slice A n c, .func (.func 165) #[] #[p1, p2, p3]] w (IdxPost p xs w) := by
  have hl := h.len
  have H := hide h
  have HL := hide hl
  have HF := hide hf
  have hni : (n : Int) ≤ 100000 := by omega
  clear h hl hf
  go_enter Tryz.func99, Tryz.ntmps99
  go_wp2_with fail
  go_loopw [8] (fun vi wr => ∃ i : Nat, i ≤ n ∧ vi = .int .i64 i ∧ (∀ j x, j < i → xs[j]? = some x → p x = false) ∧ Q w wr) (fun vi _ => n - (intOf vi).toNat)
  case atStart => exact ⟨0, by omega, by go_num, fun j x hj => by omega, Q.refl _⟩
  case round =>
    obtain ⟨i, hi, rfl, hall, hq⟩ := hrel
    have HALL := hide hall
    clear hall
    have hsz := hq.size
    by_cases hlt : i < n
    · have hd0 : decide (i < n) = true := by simpa using hlt
      have hd1 : decide ((i : Int) < (n : Int)) = true := by simpa using hlt
      have hlti : (i : Int) < (n : Int) := by omega
      obtain ⟨b1, o1, ⟨⟨at_, bs⟩, row, cap⟩, rfl, hb1, g1, x1, x2⟩ := (H.out.up hq).bk i hlt
      dsimp only at x1 x2
      have hm := List.mem_of_getElem? g1
      have HC := hide (HF.out _ hm)
      have G1 := hide g1
      clear g1 hm
      obtain ⟨m, hm⟩ : ∃ m, m = bs.length := ⟨_, rfl⟩
      rw [← hm] at x2
      have HM := hide hm
      clear hm
      go_wp2_with fail
      refine (Calls.mono (by have := HC.out _ (by first | exact hq | exact hq.drew); rw [← HM.out] at this; exact this) ?_)
      rintro e w3 ⟨rfl, hq3⟩
      have hq2 : Q w w3 := by first | exact hq.trans hq3 | exact hq.drew.trans hq3
      cases hp : p ⟨(at_, bs), row, cap⟩
      · have HP := hide hp
        clear hp x1 x2
        go_wp2_with fail
        go_roundw
        case rel => exact ⟨i + 1, by omega, by go_num, fun j x hj hx => by
          by_cases e : j = i
          · subst e
            rw [G1.out] at hx
            cases hx
            exact HP.out
          · exact HALL.out j x (by omega) hx, hq2⟩
        case measure => simp [intOf] <;> omega
      · have HP := hide hp
        clear hp x1 x2
        go_wp2_with fail
        go_ret
        exact ⟨_, rfl, hq2, .inr ⟨i, _, rfl, G1.out, HP.out, HALL.out⟩⟩
    · have hd0 : decide (i < n) = false := by simpa using hlt
      have hd1 : decide ((i : Int) < (n : Int)) = false := by simpa using hlt
      have ha : xs.any p = false := by
        rw [List.any_eq_false]
        intro x hx
        obtain ⟨j, hj, rfl⟩ := List.getElem_of_mem hx
        have := HALL.out j xs[j] (by have := HL.out; omega) (List.getElem?_eq_getElem hj)
        simp [this]
      have HA := hide ha
      clear ha
      go_wp2_with fail
      go_ret
      exact ⟨_, rfl, hq, .inl ⟨rfl, HA.out⟩⟩

theorem has_free (p : Bk → Bool) (p1 p2 p3 : Value) (A : Option Addr) (n c : Nat) (xs : List Bk) (w : World) (h : Sl 2 encBk w A n c xs) (hn : n ≤ 100000)
    (hf : ∀ x, x ∈ xs → ∀ W, Q w W → Calls Tryz.prog 165 #[.agg #[.int .i64 x.pb.1, .slice (some ⟨x.row, 0, none⟩) x.pb.2.length x.cap], p1, p2, p3] W fun e w' => e = .returned (.bool (p x)) ∧ Q W w') :
    Calls Tryz.prog 164 #[.slice A n c, .func (.func 165) #[] #[p1, p2, p3]] w fun e w' => e = .returned (.bool (xs.any p)) ∧ Q w w' := by
  have HI := hide (idx_free p p1 p2 p3 A n c xs w h hn hf)
  clear h hf
  go_enter Tryz.func164, Tryz.ntmps164
  go_wp2_with fail
  refine HI.out.mono ?_
  rintro e w1 ⟨z, rfl, hq1, hz⟩
  have HZ := hide (IdxPost.has hz)
  clear hz
  go_wp2_with fail
  go_ret
  exact ⟨ret_bool HZ.out, hq1⟩

set_option maxHeartbeats 1000000 in
theorem idx_hold (p : Bk → Bool) (p1 : Value) (A : Option Addr) (n c : Nat) (xs : List Bk) (w : World) (h : Sl 2 encBk w A n c xs) (hn : n ≤ 100000)
    (hf : ∀ x, x ∈ xs → ∀ W, Q w W → Calls Tryz.prog 100 #[.agg #[.int .i64 x.pb.1, .slice (some ⟨x.row, 0, none⟩) x.pb.2.length x.cap], p1] W fun e w' => e = .returned (.bool (p x)) ∧ Q W w') :
    Calls Tryz.prog 99 #[.slice A n c, .func (.func 100) #[] #[p1]] w (IdxPost p xs w) := by
  have hl := h.len
  have H := hide h
  have HL := hide hl
  have HF := hide hf
  have hni : (n : Int) ≤ 100000 := by omega
  clear h hl hf
  go_enter Tryz.func99, Tryz.ntmps99
  go_wp2_with fail
  go_loopw [8] (fun vi wr => ∃ i : Nat, i ≤ n ∧ vi = .int .i64 i ∧ (∀ j x, j < i → xs[j]? = some x → p x = false) ∧ Q w wr) (fun vi _ => n - (intOf vi).toNat)
  case atStart => exact ⟨0, by omega, by go_num, fun j x hj => by omega, Q.refl _⟩
  case round =>
    obtain ⟨i, hi, rfl, hall, hq⟩ := hrel
    have HALL := hide hall
    clear hall
    have hsz := hq.size
    by_cases hlt : i < n
    · have hd0 : decide (i < n) = true := by simpa using hlt
      have hd1 : decide ((i : Int) < (n : Int)) = true := by simpa using hlt
      have hlti : (i : Int) < (n : Int) := by omega
      obtain ⟨b1, o1, ⟨⟨at_, bs⟩, row, cap⟩, rfl, hb1, g1, x1, x2⟩ := (H.out.up hq).bk i hlt
      dsimp only at x1 x2
      have hm := List.mem_of_getElem? g1
      have HC := hide (HF.out _ hm)
      have G1 := hide g1
      clear g1 hm
      obtain ⟨m, hm⟩ : ∃ m, m = bs.length := ⟨_, rfl⟩
      rw [← hm] at x2
      have HM := hide hm
      clear hm
      go_wp2_with fail
      refine (Calls.mono (by have := HC.out _ (by first | exact hq | exact hq.drew); rw [← HM.out] at this; exact this) ?_)
      rintro e w3 ⟨rfl, hq3⟩
      have hq2 : Q w w3 := by first | exact hq.trans hq3 | exact hq.drew.trans hq3
      cases hp : p ⟨(at_, bs), row, cap⟩
      · have HP := hide hp
        clear hp x1 x2
        go_wp2_with fail
        go_roundw
        case rel => exact ⟨i + 1, by omega, by go_num, fun j x hj hx => by
          by_cases e : j = i
          · subst e
            rw [G1.out] at hx
            cases hx
            exact HP.out
          · exact HALL.out j x (by omega) hx, hq2⟩
        case measure => simp [intOf] <;> omega
      · have HP := hide hp
        clear hp x1 x2
        go_wp2_with fail
        go_ret
        exact ⟨_, rfl, hq2, .inr ⟨i, _, rfl, G1.out, HP.out, HALL.out⟩⟩
    · have hd0 : decide (i < n) = false := by simpa using hlt
      have hd1 : decide ((i : Int) < (n : Int)) = false := by simpa using hlt
      have ha : xs.any p = false := by
        rw [List.any_eq_false]
        intro x hx
        obtain ⟨j, hj, rfl⟩ := List.getElem_of_mem hx
        have := HALL.out j xs[j] (by have := HL.out; omega) (List.getElem?_eq_getElem hj)
        simp [this]
      have HA := hide ha
      clear ha
      go_wp2_with fail
      go_ret
      exact ⟨_, rfl, hq, .inl ⟨rfl, HA.out⟩⟩

set_option maxHeartbeats 1000000 in
theorem idx_gone (p : Bk → Bool) (p1 : Value) (A : Option Addr) (n c : Nat) (xs : List Bk) (w : World) (h : Sl 2 encBk w A n c xs) (hn : n ≤ 100000)
    (hf : ∀ x, x ∈ xs → ∀ W, Q w W → Calls Tryz.prog 176 #[.agg #[.int .i64 x.pb.1, .slice (some ⟨x.row, 0, none⟩) x.pb.2.length x.cap], p1] W fun e w' => e = .returned (.bool (p x)) ∧ Q W w') :
    Calls Tryz.prog 99 #[.slice A n c, .func (.func 176) #[] #[p1]] w (IdxPost p xs w) := by
  have hl := h.len
  have H := hide h
  have HL := hide hl
  have HF := hide hf
  have hni : (n : Int) ≤ 100000 := by omega
  clear h hl hf
  go_enter Tryz.func99, Tryz.ntmps99
  go_wp2_with fail
  go_loopw [8] (fun vi wr => ∃ i : Nat, i ≤ n ∧ vi = .int .i64 i ∧ (∀ j x, j < i → xs[j]? = some x → p x = false) ∧ Q w wr) (fun vi _ => n - (intOf vi).toNat)
  case atStart => exact ⟨0, by omega, by go_num, fun j x hj => by omega, Q.refl _⟩
  case round =>
    obtain ⟨i, hi, rfl, hall, hq⟩ := hrel
    have HALL := hide hall
    clear hall
    have hsz := hq.size
    by_cases hlt : i < n
    · have hd0 : decide (i < n) = true := by simpa using hlt
      have hd1 : decide ((i : Int) < (n : Int)) = true := by simpa using hlt
      have hlti : (i : Int) < (n : Int) := by omega
      obtain ⟨b1, o1, ⟨⟨at_, bs⟩, row, cap⟩, rfl, hb1, g1, x1, x2⟩ := (H.out.up hq).bk i hlt
      dsimp only at x1 x2
      have hm := List.mem_of_getElem? g1
      have HC := hide (HF.out _ hm)
      have G1 := hide g1
      clear g1 hm
      obtain ⟨m, hm⟩ : ∃ m, m = bs.length := ⟨_, rfl⟩
      rw [← hm] at x2
      have HM := hide hm
      clear hm
      go_wp2_with fail
      refine (Calls.mono (by have := HC.out _ (by first | exact hq | exact hq.drew); rw [← HM.out] at this; exact this) ?_)
      rintro e w3 ⟨rfl, hq3⟩
      have hq2 : Q w w3 := by first | exact hq.trans hq3 | exact hq.drew.trans hq3
      cases hp : p ⟨(at_, bs), row, cap⟩
      · have HP := hide hp
        clear hp x1 x2
        go_wp2_with fail
        go_roundw
        case rel => exact ⟨i + 1, by omega, by go_num, fun j x hj hx => by
          by_cases e : j = i
          · subst e
            rw [G1.out] at hx
            cases hx
            exact HP.out
          · exact HALL.out j x (by omega) hx, hq2⟩
        case measure => simp [intOf] <;> omega
      · have HP := hide hp
        clear hp x1 x2
        go_wp2_with fail
        go_ret
        exact ⟨_, rfl, hq2, .inr ⟨i, _, rfl, G1.out, HP.out, HALL.out⟩⟩
    · have hd0 : decide (i < n) = false := by simpa using hlt
      have hd1 : decide ((i : Int) < (n : Int)) = false := by simpa using hlt
      have ha : xs.any p = false := by
        rw [List.any_eq_false]
        intro x hx
        obtain ⟨j, hj, rfl⟩ := List.getElem_of_mem hx
        have := HALL.out j xs[j] (by have := HL.out; omega) (List.getElem?_eq_getElem hj)
        simp [this]
      have HA := hide ha
      clear ha
      go_wp2_with fail
      go_ret
      exact ⟨_, rfl, hq, .inl ⟨rfl, HA.out⟩⟩

theorem has_gone (p : Bk → Bool) (p1 : Value) (A : Option Addr) (n c : Nat) (xs : List Bk) (w : World) (h : Sl 2 encBk w A n c xs) (hn : n ≤ 100000)
    (hf : ∀ x, x ∈ xs → ∀ W, Q w W → Calls Tryz.prog 176 #[.agg #[.int .i64 x.pb.1, .slice (some ⟨x.row, 0, none⟩) x.pb.2.length x.cap], p1] W fun e w' => e = .returned (.bool (p x)) ∧ Q W w') :
    Calls Tryz.prog 164 #[.slice A n c, .func (.func 176) #[] #[p1]] w fun e w' => e = .returned (.bool (xs.any p)) ∧ Q w w' := by
  have HI := hide (idx_gone p p1 A n c xs w h hn hf)
  clear h hf
  go_enter Tryz.func164, Tryz.ntmps164
  go_wp2_with fail
  refine HI.out.mono ?_
  rintro e w1 ⟨z, rfl, hq1, hz⟩
  have HZ := hide (IdxPost.has hz)
  clear hz
  go_wp2_with fail
  go_ret
  exact ⟨ret_bool HZ.out, hq1⟩
end Go.Proofs.YtdaklffbfadghaaGreat

namespace Go.Proofs.YtdaklffbfadghaaGreat
open Go.RowKit HP
set_option linter.unusedVariables false
/-- every block begins and ends within bounds -/
def Near (l : List Bk) : Prop := l.length ≤ 100 ∧ ∀ x ∈ l, 0 ≤ x.pb.1 ∧ x.pb.1 ≤ 10000 ∧ x.pb.2.length ≤ 10000
theorem HpR.open_ {w : World} {h : Hp} (H : HpR w h) : ∃ A c, h.lv = .slice A h.bks.length c ∧ Sl 2 encBk w A h.bks.length c h.bks ∧ w.cell? ⟨h.blk, 5, none⟩ = some (.slice A h.bks.length c) ∧ h.blk < w.heap.size := by
  obtain ⟨A, c, e, h1, h2, h3, hr⟩ := own_form H.live
  refine ⟨A, c, e, ?_, ?_, blk_lt H.cells⟩
  · have := H.live
    rw [e] at this
    exact Sl.own this (fun _ => rfl) (by decide)
  · rw [H.cell 5, ← e]
    rfl
theorem any_pb {l : List Bk} {p : PB → Bool} : l.any (fun x => p x.pb) = (l.map (·.pb)).any p := by rw [List.any_map]; rfl
set_option maxHeartbeats 1000000 in
theorem free_any (h : Hp) (a b but : Int) (w : World) (H : HpR w h) (hN : Near h.bks) :
    Calls Tryz.prog 163 #[h.bptr, .int .i64 a, .int .i64 b, .int .i64 but] w fun e w' => e = .returned (.bool (freeB h.size (h.bks.map (·.pb)) a b but)) ∧ Q w w' := by
  obtain ⟨A, c, -, hS, k5, hb⟩ := H.open_
  have k4 : w.cell? ⟨h.blk, 4, none⟩ = some (.int .i64 h.size) := by rw [H.cell 4]; rfl
  obtain ⟨hN1, hN2⟩ := hN
  unfold Hp.bptr freeB
  rw [← any_pb]
  obtain ⟨sz, hsz⟩ : ∃ sz, sz = h.size := ⟨_, rfl⟩
  obtain ⟨g, hg⟩ : ∃ g, g = h.blk := ⟨_, rfl⟩
  obtain ⟨l, hl⟩ : ∃ l, l = h.bks := ⟨_, rfl⟩
  obtain ⟨n, hn⟩ : ∃ n, n = h.bks.length := ⟨_, rfl⟩
  rw [← hn] at hS k5 hN1
  rw [← hl] at hS hN2 ⊢
  rw [← hg] at k4 k5 hb ⊢
  rw [← hsz] at k4 ⊢
  have hmf : ∀ (fn : Fn) (first cap : Array Value) (w : World), (Instr.makeFunc fn first cap).run Tryz.prog w = .ok (.func fn first cap) w := fun _ _ _ _ => rfl
  have H0 : Hid (∀ W, Q w W → ∀ g1 g2 g3, W.cell? ⟨g1, 0, none⟩ = some (.int .i64 but) → W.cell? ⟨g2, 0, none⟩ = some (.int .i64 b) → W.cell? ⟨g3, 0, none⟩ = some (.int .i64 a) → g1 < W.heap.size → g2 < W.heap.size → g3 < W.heap.size →
      Calls Tryz.prog 164 #[.slice A n c, .func (.func 165) #[] #[.pointer (some ⟨g1, 0, none⟩), .pointer (some ⟨g2, 0, none⟩), .pointer (some ⟨g3, 0, none⟩)]] W fun e w' => e = .returned (.bool (l.any fun x => clash a b but x.pb)) ∧ Q W w') := by
    intro W hq g1 g2 g3 c1 c2 c3 l1 l2 l3
    refine has_free (fun x => clash a b but x.pb) _ _ _ A n c l W (hS.up hq) (by omega) (fun x hx W' hq' => ?_)
    obtain ⟨h1, h2, h3⟩ := hN2 x hx
    have hs := hq'.size
    exact freeC x.pb _ _ _ g1 g2 g3 a b but W' rfl h1 (by omega) (by omega) ((hq'.facts.1 g1 0 l1).trans c1) ((hq'.facts.1 g2 0 l2).trans c2) ((hq'.facts.1 g3 0 l3).trans c3) (by omega) (by omega) (by omega)
  obtain ⟨w1, hw1⟩ : ∃ w1, ((w.alloc (.cells #[.int .i64 a] 3)).alloc (.cells #[.int .i64 b] 3)).alloc (.cells #[.int .i64 but] 3) = w1 := ⟨_, rfl⟩
  have hq1 : Q w w1 := by rw [← hw1]; exact ((Q.refl w).alloc _).alloc _ |>.alloc _
  have c5 : w1.cell? ⟨w.heap.size, 0, none⟩ = some (.int .i64 a) := by rw [← hw1, cell_old _ _ _ (by first | (simp; done) | (simp; omega)), cell_old _ _ _ (by first | (simp; done) | (simp; omega)), cell_new]; rfl
  have c6 : w1.cell? ⟨w.heap.size + 1, 0, none⟩ = some (.int .i64 b) := by rw [← hw1, cell_old _ _ _ (by first | (simp; done) | (simp; omega)), show w.heap.size + 1 = (w.alloc (.cells #[.int .i64 a] 3)).heap.size by simp, cell_new]; rfl
  have c7 : w1.cell? ⟨w.heap.size + 1 + 1, 0, none⟩ = some (.int .i64 but) := by rw [← hw1, show w.heap.size + 1 + 1 = ((w.alloc (.cells #[.int .i64 a] 3)).alloc (.cells #[.int .i64 b] 3)).heap.size by simp, cell_new]; rfl
  have k4' := (hq1.facts.1 g 4 hb).trans k4
  have k5' := (hq1.facts.1 g 5 hb).trans k5
  have hs0 : w.heap.size < w1.heap.size := by rw [← hw1]; simp; omega
  have hs1 : w.heap.size + 1 < w1.heap.size := by rw [← hw1]; simp
  have hs2 : w.heap.size + 1 + 1 < w1.heap.size := by rw [← hw1]; simp
  have hb1 : g < w1.heap.size := by omega
  have HW1 := hide hw1
  clear hS hN2 hsz hg hl hn H hw1 k4 k5
  cases h1 : decide (sz < b)
  · go_enter Tryz.func163, Tryz.ntmps163
    go_wp2_with fail
    rw [HW1.out]
    have hxc := ext_cell
    refine wp_region_ext (by kernel_rfl) (by kernel_rfl) ?_
    repeat (go_big_quiet_step ((fail)))
    clear hxc
    refine wpQuiet_nil ?_
    intro w2 hww2
    have hqw2 := q_of_ext hww2
    clear hww2
    obtain ⟨hcw2, hfw2, hzw2⟩ := hqw2.facts
    try simp at hzw2
    try have hs0w2 : w.heap.size < w2.heap.size := by omega
    try have hs1w2 : w.heap.size + 1 < w2.heap.size := by omega
    have k5'' := (hqw2.facts.1 g 5 hb1).trans k5'
    have d5 := (hqw2.facts.1 _ 0 hs0).trans c5
    have d6 := (hqw2.facts.1 _ 0 hs1).trans c6
    have d7 := (hqw2.facts.1 _ 0 hs2).trans c7
    go_wp2_with fail
    refine (H0.out w2 (hq1.trans hqw2) _ _ _ d7 d6 d5 (by omega) (by omega) (by omega)).mono ?_
    rintro e w3 ⟨rfl, hq3⟩
    go_wp2_with fail
    go_ret
    exact ⟨by simp, (hq1.trans hqw2).trans hq3⟩
  · go_enter Tryz.func163, Tryz.ntmps163
    go_wp2_with fail
    rw [HW1.out]
    have hxc := ext_cell
    refine wp_region_ext (by kernel_rfl) (by kernel_rfl) ?_
    repeat (go_big_quiet_step ((fail)))
    clear hxc
    refine wpQuiet_nil ?_
    intro w2 hww2
    have hqw2 := q_of_ext hww2
    clear hww2
    obtain ⟨hcw2, hfw2, hzw2⟩ := hqw2.facts
    try simp at hzw2
    try have hs0w2 : w.heap.size < w2.heap.size := by omega
    try have hs1w2 : w.heap.size + 1 < w2.heap.size := by omega
    go_wp2_with fail
    go_ret
    exact ⟨by simp, hq1.trans hqw2⟩
theorem used_any (h : Hp) (w : World) (H : HpR w h) (hN : Near h.bks) :
    Calls Tryz.prog 65 #[h.bptr] w fun e w' => e = .returned (.int .i64 (used (h.bks.map (·.pb)))) ∧ Q w w' := by
  obtain ⟨A, c, -, hS, k5, hb⟩ := H.open_
  obtain ⟨hN1, hN2⟩ := hN
  unfold Hp.bptr
  obtain ⟨g, hg⟩ : ∃ g, g = h.blk := ⟨_, rfl⟩
  obtain ⟨l, hl⟩ : ∃ l, l = h.bks := ⟨_, rfl⟩
  obtain ⟨n, hn⟩ : ∃ n, n = h.bks.length := ⟨_, rfl⟩
  rw [← hn] at hS k5 hN1
  rw [← hl] at hS hN2 hn ⊢
  rw [← hg] at k5 hb ⊢
  have hni : (n : Int) ≤ 100 := by omega
  have U : ∀ k, 0 ≤ used ((l.map (·.pb)).take k) ∧ used ((l.map (·.pb)).take k) ≤ 1000000 := fun k => by
    refine ⟨used_nonneg _, ?_⟩
    have h1 := used_take_le (l.map (·.pb)) k
    have h2 := used_le (l.map (·.pb)) 10000 (fun x hx => by
      obtain ⟨y, hy, rfl⟩ := List.mem_map.1 hx
      have := (hN2 y hy).2.2
      omega)
    rw [List.length_map, ← hn] at h2
    omega
  have HU := hide U
  have HS := hide hS
  have HN := hide hN2
  have HNl := hide hn
  clear U hS hN2 hn hl hg H
  go_enter Tryz.func65, Tryz.ntmps65
  go_wp2_with fail
  go_loopw [3, 11] (fun vs vi wr => ∃ i : Nat, i ≤ n ∧ vi = .int .i64 i ∧ vs = .int .i64 (used ((l.map (·.pb)).take i)) ∧ Q w wr) (fun _ vi _ => n - (intOf vi).toNat)
  case atStart => exact ⟨0, by omega, by go_num, by simp [used], Q.refl _⟩
  case round =>
    obtain ⟨i, hi, rfl, rfl, hq⟩ := hrel
    have hsz := hq.size
    by_cases hlt : i < n
    · have hd0 : decide (i < n) = true := by simpa using hlt
      have hd1 : decide ((i : Int) < (n : Int)) = true := by simpa using hlt
      have hlti : (i : Int) < (n : Int) := by omega
      obtain ⟨b1, o1, ⟨⟨at_, bs⟩, row, cap⟩, rfl, hb1, g1, x1, x2⟩ := (HS.out.up hq).bk i hlt
      dsimp only at x1 x2
      have hbl := (HN.out _ (List.mem_of_getElem? g1)).2.2
      dsimp only at hbl
      have hu := used_take_succ (l.map (·.pb)) i (at_, bs) (by rw [List.getElem?_map, g1]; rfl)
      dsimp only at hu
      obtain ⟨u0, hu0⟩ : ∃ u0, u0 = used ((l.map (·.pb)).take i) := ⟨_, rfl⟩
      have hu1 := HU.out i
      rw [← hu0] at hu hu1 ⊢
      obtain ⟨m, hm⟩ : ∃ m, m = bs.length := ⟨_, rfl⟩
      rw [← hm] at x2 hbl hu
      have hmi : (m : Int) ≤ 10000 := by omega
      have hmi0 : 0 ≤ (m : Int) := by omega
      obtain ⟨hu2, hu3⟩ := hu1
      have HU1 := hide hu
      have G1 := hide g1
      clear g1 hm hu hu0
      go_wp2_with fail
      go_roundw
      case rel => exact ⟨i + 1, by omega, by go_num, by rw [HU1.out], by first | exact hq.alloc _ | exact hq.drew.alloc _⟩
      case measure => simp [intOf] <;> omega
    · have hd0 : decide (i < n) = false := by simpa using hlt
      have hd1 : decide ((i : Int) < (n : Int)) = false := by simpa using hlt
      obtain rfl : i = n := by omega
      go_wp2_with fail
      go_ret
      exact ⟨ret_int (by rw [List.take_of_length_le (by rw [List.length_map, ← HNl.out]; exact Nat.le_refl _)]), hq⟩
end Go.Proofs.YtdaklffbfadghaaGreat

namespace Go.Proofs.YtdaklffbfadghaaGreat
open Go.RowKit HP
set_option linter.unusedVariables false
/-- the difference of two numbers, wrapped: 0 only where they are equal -/
theorem wrap_zero (x a : Int) (hx : 0 ≤ x) (hx1 : x ≤ 10000) (ha0 : -9223372036854775808 ≤ a) (ha1 : a ≤ 9223372036854775807) : wrap64 (x - a) = 0 ↔ x = a := by
  unfold wrap64
  omega
theorem wrap_neg (x a : Int) (hx : 0 ≤ x) (hx1 : x ≤ 10000) (ha0 : 0 ≤ a) (ha1 : a ≤ 9223372036854775807) : wrap64 (x - a) < 0 ↔ x < a := by
  unfold wrap64
  omega
theorem findC (x : Int) (A : Option Addr) (n c : Nat) (at_ : Int) (w : World) :
    Calls Tryz.prog 121 #[.agg #[.int .i64 x, .slice A n c], .int .i64 at_] w fun e w' => e = .returned (.int .i64 (wrap64 (x - at_))) ∧ Q w w' := by
  go_enter Tryz.func121, Tryz.ntmps121
  go_wp2_with fail
  go_ret
  exact ⟨rfl, (Q.refl w).alloc _⟩
/-- where a block begins at a place, or would -/
def FindPost (l : List PB) (at_ : Int) (w : World) (e : Ending) (w' : World) : Prop :=
  ∃ k : Nat, e = .returned (.tuple #[.int .i64 (k : Int), .bool (has l at_)]) ∧ k ≤ l.length ∧ (0 ≤ at_ → k = below l at_) ∧ Q w w'
set_option maxHeartbeats 2000000 in
set_option maxRecDepth 100000 in
theorem search_any (A : Option Addr) (n c : Nat) (xs : List Bk) (size at_ : Int) (w : World) (h : Sl 2 encBk w A n c xs) (hn : n ≤ 100) (hF : Fit size (xs.map (·.pb))) (ha0 : -9223372036854775808 ≤ at_) (ha1 : at_ ≤ 9223372036854775807) :
    Calls Tryz.prog 120 #[.slice A n c, .int .i64 at_, .func (.func 121) #[] #[]] w (FindPost (xs.map (·.pb)) at_ w) := by
  have hl := h.len
  have H := hide h
  have HL := hide hl
  have HF := hide hF
  have HA0 := hide ha0
  have HA1 := hide ha1
  have hni : (n : Int) ≤ 100 := by omega
  clear h hl hF ha0 ha1
  go_enter Tryz.func120, Tryz.ntmps120
  go_wp2_with fail
  go_loopw [9, 10] (fun vi vj wr => ∃ i j : Nat, i ≤ j ∧ j ≤ n ∧ vi = .int .i64 (i : Int) ∧ vj = .int .i64 (j : Int) ∧ (0 ≤ at_ → (∀ t x, t < i → xs[t]? = some x → x.pb.1 < at_) ∧ (∀ t x, j ≤ t → xs[t]? = some x → at_ ≤ x.pb.1)) ∧ Q w wr) (fun vi vj _ => (intOf vj).toNat - (intOf vi).toNat)
  case atStart => exact ⟨0, n, by omega, by omega, by go_num, rfl, fun _ => ⟨fun t x ht => by omega, fun t x ht hx => by rw [List.getElem?_eq_none (by rw [HL.out]; omega)] at hx; cases hx⟩, Q.refl _⟩
  case round =>
    obtain ⟨i, j, hij, hjn, rfl, rfl, hinv, hq⟩ := hrel
    have HI := hide hinv
    clear hinv
    have hsz := hq.size
    by_cases hlt : i < j
    · have hd0 : decide (i < j) = true := by simpa using hlt
      have hd1 : decide ((i : Int) < (j : Int)) = true := by simpa using hlt
      have hlti : (i : Int) < (j : Int) := by omega
      have hmn : (i + j) / 2 < n := by omega
      obtain ⟨b1, o1, ⟨⟨x, bs⟩, row, cap⟩, rfl, hb1, g1, x1, x2⟩ := (H.out.up hq).bk ((i + j) / 2) hmn
      dsimp only at x1 x2
      have hx := HF.out.inn (x, bs) (List.mem_map.2 ⟨_, List.mem_of_getElem? g1, rfl⟩)
      obtain ⟨hx0, hx1, hx2⟩ := hx
      unfold pend at hx2
      dsimp only at hx0 hx1 hx2
      have hsz4 := HF.out.sz.2
      have hx3 : x ≤ 10000 := by omega
      have G1 := hide g1
      have HX : Hid (0 ≤ at_ → (wrap64 (x - at_) < 0 ↔ x < at_)) := fun h => wrap_neg x at_ hx0 hx3 h HA1.out
      obtain ⟨d, hd⟩ : ∃ d, d = wrap64 (x - at_) := ⟨_, rfl⟩
      have HC : Hid (∀ W, Calls Tryz.prog 121 #[.agg #[.int .i64 x, .slice (some ⟨row, 0, none⟩) bs.length cap], .int .i64 at_] W fun e w' => e = .returned (.int .i64 d) ∧ Q W w') := fun W => by rw [hd]; exact findC x _ _ _ at_ W
      rw [← hd] at HX
      have ord : Hid (∀ t y, t ≤ (i + j) / 2 → xs[t]? = some y → y.pb.1 ≤ x) := fun t y ht hy => by
        rcases Nat.lt_or_eq_of_le ht with h3 | h3
        · have := (HF.out.lt (i := t) (j := (i + j) / 2) (x := y.pb) (y := (x, bs)) (by rw [List.getElem?_map, hy]; rfl) (by rw [List.getElem?_map, G1.out]; rfl) h3).1
          dsimp only at this
          omega
        · rw [h3, G1.out] at hy
          cases hy
          exact Int.le_refl _
      have ord2 : Hid (∀ t y, (i + j) / 2 ≤ t → xs[t]? = some y → x ≤ y.pb.1) := fun t y ht hy => by
        rcases Nat.lt_or_eq_of_le ht with h3 | h3
        · have := (HF.out.lt (i := (i + j) / 2) (j := t) (x := (x, bs)) (y := y.pb) (by rw [List.getElem?_map, G1.out]; rfl) (by rw [List.getElem?_map, hy]; rfl) h3).1
          dsimp only at this
          omega
        · rw [← h3, G1.out] at hy
          cases hy
          exact Int.le_refl _
      clear g1 hd hx0 hx1 hx2 hsz4 hx3
      by_cases hneg : d < 0
      · go_wp2_with (go_at_call 121; refine (HC.out _).mono ?_; rintro e w3 ⟨rfl, hq3⟩)
        go_roundw
        case rel => exact ⟨(i + j) / 2 + 1, j, by omega, hjn, by rw [show ((i : Int) + (j : Int)) / 2 + 1 = (((i + j) / 2 + 1 : Nat) : Int) by omega], rfl, fun h0 => ⟨fun t y ht hy => by
            have h1 := ord.out t y (by omega) hy
            have h2 := (HX.out h0).1 hneg
            omega, (HI.out h0).2⟩, by first | exact hq.trans hq3 | exact hq.drew.trans hq3⟩
        case measure => simp [intOf] <;> omega
      · go_wp2_with (go_at_call 121; refine (HC.out _).mono ?_; rintro e w3 ⟨rfl, hq3⟩)
        go_roundw
        case rel => exact ⟨i, (i + j) / 2, by omega, by omega, rfl, by rw [show ((i : Int) + (j : Int)) / 2 = (((i + j) / 2 : Nat) : Int) by omega], fun h0 => ⟨(HI.out h0).1, fun t y ht hy => by
            have h1 := ord2.out t y ht hy
            have h2 := mt (HX.out h0).2 (by omega)
            omega⟩, by first | exact hq.trans hq3 | exact hq.drew.trans hq3⟩
        case measure => simp [intOf] <;> omega
    · obtain rfl : i = j := by omega
      have hd0 : decide (i < i) = false := by simp
      have hbelow : Hid (0 ≤ at_ → i = below (xs.map (·.pb)) at_) := fun h0 => by
        refine (below_eq HF.out at_ i (by rw [List.length_map, HL.out]; exact hjn) (fun t y ht hy => ?_) (fun t y ht hy => ?_)).symm
        · rw [List.getElem?_map] at hy
          obtain ⟨z, hz, rfl⟩ := Option.map_eq_some_iff.1 hy
          exact (HI.out h0).1 t z ht hz
        · rw [List.getElem?_map] at hy
          obtain ⟨z, hz, rfl⟩ := Option.map_eq_some_iff.1 hy
          exact (HI.out h0).2 t z ht hz
      have hneg : Hid (at_ < 0 → has (xs.map (·.pb)) at_ = false) := fun h0 => by
        unfold has
        rw [List.any_eq_false]
        intro y hy
        have := (HF.out.inn y hy).1
        simp
        omega
      by_cases hin : i < n
      · have hd1 : decide ((i : Int) < (n : Int)) = true := by simpa using hin
        have hd2 : decide (i < n) = true := by simpa using hin
        have hlti : (i : Int) < (n : Int) := by omega
        obtain ⟨b1, o1, ⟨⟨x, bs⟩, row, cap⟩, rfl, hb1, g1, x1, x2⟩ := (H.out.up hq).bk i hin
        dsimp only at x1 x2
        have hx := HF.out.inn (x, bs) (List.mem_map.2 ⟨_, List.mem_of_getElem? g1, rfl⟩)
        obtain ⟨hx0, hx1, hx2⟩ := hx
        unfold pend at hx2
        dsimp only at hx0 hx1 hx2
        have hsz4 := HF.out.sz.2
        have hz := wrap_zero x at_ hx0 (by omega) HA0.out HA1.out
        have HR : Hid (has (xs.map (·.pb)) at_ = (wrap64 (x - at_) == 0)) := by
          rw [Bool.eq_iff_iff]
          constructor
          · intro hh
            have h0 : 0 ≤ at_ := by
              rcases Int.lt_or_le at_ 0 with h | h
              · rw [hneg.out h] at hh; cases hh
              · exact h
            obtain ⟨y, hy, he⟩ := (has_iff HF.out at_).1 hh
            rw [← hbelow.out h0, List.getElem?_map, g1] at hy
            cases hy
            simp [hz.2 he]
          · intro hh
            have he : x = at_ := hz.1 (by simpa using hh)
            unfold has
            rw [List.any_eq_true]
            exact ⟨(x, bs), List.mem_map.2 ⟨_, List.mem_of_getElem? g1, rfl⟩, by simpa using he⟩
        obtain ⟨d, hd⟩ : ∃ d, d = wrap64 (x - at_) := ⟨_, rfl⟩
        have HC : Hid (∀ W, Calls Tryz.prog 121 #[.agg #[.int .i64 x, .slice (some ⟨row, 0, none⟩) bs.length cap], .int .i64 at_] W fun e w' => e = .returned (.int .i64 d) ∧ Q W w') := fun W => by rw [hd]; exact findC x _ _ _ at_ W
        rw [← hd] at HR
        have hnl : Hid (n = (xs.map (·.pb)).length) := by rw [List.length_map]; exact HL.out.symm
        clear g1 hd hx0 hx1 hx2 hsz4 hz
        by_cases hdz : d = 0
        · subst hdz
          go_wp2_with (go_at_call 121; refine (HC.out _).mono ?_; rintro e w3 ⟨rfl, hq3⟩)
          go_ret2
          exact ⟨i, by rw [HR.out]; first | rfl | (simp; done), by rw [← hnl.out]; exact hjn, hbelow.out, by first | exact hq.trans hq3 | exact hq.drew.trans hq3⟩
        · have hdz0 : (d == 0) = false := by simpa using hdz
          go_wp2_with (go_at_call 121; refine (HC.out _).mono ?_; rintro e w3 ⟨rfl, hq3⟩)
          go_ret2
          exact ⟨i, by rw [HR.out]; first | rfl | (simp [hdz]; done), by rw [← hnl.out]; exact hjn, hbelow.out, by first | exact hq.trans hq3 | exact hq.drew.trans hq3⟩
      · have hd1 : decide ((i : Int) < (n : Int)) = false := by simpa using hin
        have hd2 : decide (i < n) = false := by simpa using hin
        have HR : Hid (has (xs.map (·.pb)) at_ = false) := by
          cases hh : has (xs.map (·.pb)) at_ with
          | false => rfl
          | true =>
            have h0 : 0 ≤ at_ := by
              rcases Int.lt_or_le at_ 0 with h | h
              · rw [hneg.out h] at hh; cases hh
              · exact h
            obtain ⟨y, hy, he⟩ := (has_iff HF.out at_).1 hh
            rw [← hbelow.out h0, List.getElem?_eq_none (by rw [List.length_map, HL.out]; omega)] at hy
            cases hy
        have hnl : Hid (n = (xs.map (·.pb)).length) := by rw [List.length_map]; exact HL.out.symm
        go_wp2_with fail
        go_ret2
        exact ⟨i, by rw [HR.out]; try rfl, by rw [← hnl.out]; exact hjn, hbelow.out, hq⟩
theorem find_any (h : Hp) (at_ : Int) (w : World) (H : HpR w h) (hn : h.bks.length ≤ 100) (hF : Fit h.size (h.bks.map (·.pb))) (ha0 : -9223372036854775808 ≤ at_) (ha1 : at_ ≤ 9223372036854775807) :
    Calls Tryz.prog 96 #[h.bptr, .int .i64 at_] w (FindPost (h.bks.map (·.pb)) at_ w) := by
  obtain ⟨A, c, -, hS, k5, hb⟩ := H.open_
  have HC := hide (search_any A _ c h.bks h.size at_ w hS hn hF ha0 ha1)
  unfold Hp.bptr
  obtain ⟨g, hg⟩ : ∃ g, g = h.blk := ⟨_, rfl⟩
  obtain ⟨n, hn'⟩ : ∃ n, n = h.bks.length := ⟨_, rfl⟩
  rw [← hn'] at k5 HC
  rw [← hg] at k5 hb ⊢
  clear hS hn' hg H hF hn
  go_enter Tryz.func96, Tryz.ntmps96
  go_wp2_with fail
  refine HC.out.mono ?_
  rintro e w1 ⟨k, rfl, hk, hb1, hq⟩
  have HK := hide hb1
  clear hb1
  go_wp2_with fail
  go_ret2
  exact ⟨k, rfl, hk, HK.out, hq⟩
end Go.Proofs.YtdaklffbfadghaaGreat

namespace Go.Proofs.YtdaklffbfadghaaGreat
open Go.RowKit HP
set_option linter.unusedVariables false
def encN (x : Int) : List Value := [.int .i64 x]
def IdxI (x : Int) (xs : List Int) (w : World) (e : Ending) (w' : World) : Prop := ∃ z : Int, e = .returned (.int .i64 z) ∧ decide (0 ≤ z) = xs.any (· == x) ∧ Q w w'
set_option maxHeartbeats 1000000 in
theorem index_any (A : Option Addr) (n c : Nat) (xs : List Int) (x : Int) (w : World) (h : Sl 1 encN w A n c xs) (hn : n ≤ 100000) :
    Calls Tryz.prog 119 #[.slice A n c, .int .i64 x] w (IdxI x xs w) := by
  have H := hide h
  have HL := hide h.len
  have hni : (n : Int) ≤ 100000 := by omega
  clear h
  go_enter Tryz.func119, Tryz.ntmps119
  go_wp2_with fail
  go_loopw [8] (fun vi wr => ∃ i : Nat, i ≤ n ∧ vi = .int .i64 i ∧ (∀ j y, j < i → xs[j]? = some y → (y == x) = false) ∧ Q w wr) (fun vi _ => n - (intOf vi).toNat)
  case atStart => exact ⟨0, by omega, by go_num, fun j x hj => by omega, Q.refl _⟩
  case round =>
    obtain ⟨i, hi, rfl, hall, hq⟩ := hrel
    have HALL := hide hall
    clear hall
    have hsz := hq.size
    by_cases hlt : i < n
    · have hd0 : decide (i < n) = true := by simpa using hlt
      have hd1 : decide ((i : Int) < (n : Int)) = true := by simpa using hlt
      have hlti : (i : Int) < (n : Int) := by omega
      obtain ⟨b1, o1, y, rfl, hb1, g1, hc⟩ := (H.out.up hq).at_ (fun _ => rfl) (by decide) i hlt
      have x1 : wr.cell? ⟨b1, o1 + i, none⟩ = some (.int .i64 y) := by simpa using hc 0 _ rfl
      have G1 := hide g1
      clear g1 hc
      by_cases he : x = y
      · have he1 : (x == y) = true := by simpa using he
        have HE : Hid (xs.any (· == x) = true) := List.any_eq_true.2 ⟨y, List.mem_of_getElem? G1.out, by simp [he]⟩
        clear he
        go_wp2_with fail
        go_ret
        exact ⟨_, rfl, by rw [HE.out]; simp, hq⟩
      · have he1 : (x == y) = false := by simpa using he
        have HE : Hid ((y == x) = false) := hide (by simpa using Ne.symm he)
        clear he
        go_wp2_with fail
        go_roundw
        case rel => exact ⟨i + 1, by omega, by go_num, fun j z hj hz => by
          by_cases e : j = i
          · subst e
            rw [G1.out] at hz
            cases hz
            exact HE.out
          · exact HALL.out j z (by omega) hz, by first | exact hq | exact hq.drew⟩
        case measure => simp [intOf] <;> omega
    · have hd0 : decide (i < n) = false := by simpa using hlt
      have hd1 : decide ((i : Int) < (n : Int)) = false := by simpa using hlt
      have ha : xs.any (· == x) = false := by
        rw [List.any_eq_false]
        intro y hy
        obtain ⟨j, hj, rfl⟩ := List.getElem_of_mem hy
        have := HALL.out j xs[j] (by have := HL.out; omega) (List.getElem?_eq_getElem hj)
        simp [this]
      have HA := hide ha
      clear ha
      go_wp2_with fail
      go_ret
      exact ⟨_, rfl, by rw [HA.out]; rfl, hq⟩
theorem contains_any (A : Option Addr) (n c : Nat) (xs : List Int) (x : Int) (w : World) (h : Sl 1 encN w A n c xs) (hn : n ≤ 100000) :
    Calls Tryz.prog 95 #[.slice A n c, .int .i64 x] w fun e w' => e = .returned (.bool (xs.any (· == x))) ∧ Q w w' := by
  have HI := hide (index_any A n c xs x w h hn)
  clear h
  go_enter Tryz.func95, Tryz.ntmps95
  go_wp2_with fail
  refine HI.out.mono ?_
  rintro e w1 ⟨z, rfl, hz, hq1⟩
  have HZ := hide hz
  clear hz
  go_wp2_with fail
  go_ret
  exact ⟨ret_bool HZ.out, hq1⟩
def alignB (a : Int) : Bool := [1, 2, 4, 8, 16].any fun x : Int => x == a
theorem isAlign_any (a : Int) (w : World) : Calls Tryz.prog 60 #[.int .i64 a] w fun e w' => e = .returned (.bool (alignB a)) ∧ Q w w' := by
  obtain ⟨w1, hw1⟩ : ∃ w1, w.alloc (.cells #[.int .i64 1, .int .i64 2, .int .i64 4, .int .i64 8, .int .i64 16] 3) = w1 := ⟨_, rfl⟩
  have hq1 : Q w w1 := by rw [← hw1]; exact (Q.refl w).alloc _
  have hS : Sl 1 encN w1 (some ⟨w.heap.size, 0, none⟩) 5 5 [1, 2, 4, 8, 16] := by
    refine ⟨.inr ⟨w.heap.size, 0, rfl, by rw [← hw1]; simp, fun j u hu => ?_⟩, rfl, by decide, by decide⟩
    rw [← hw1, Nat.zero_add, cell_new, ← hu]
    simp [encN]
  have HC := hide (contains_any _ 5 5 [1, 2, 4, 8, 16] a w1 hS (by decide))
  have HW := hide hw1
  clear hw1 hS
  unfold alignB
  go_enter Tryz.func60, Tryz.ntmps60
  go_wp2_with fail
  rw [HW.out]
  refine HC.out.mono ?_
  rintro e w2 ⟨rfl, hq2⟩
  go_wp2_with fail
  go_ret
  exact ⟨ret_bool (by simp [List.any]), hq1.trans hq2⟩
end Go.Proofs.YtdaklffbfadghaaGreat

namespace Go.Proofs.YtdaklffbfadghaaGreat
open Go.RowKit HP
set_option linter.unusedVariables false
theorem El_int : El Tryz.prog 45 3 1 8 := El.of (z := .int .i64 0) Tryz.underlying45 (by kernel_rfl) rfl (by decide) (by decide)
theorem El_bk : El Tryz.prog 81 111 2 32 := El.of (z := .agg #[.int .i64 0, .slice none 0 0]) Tryz.underlying81 (by kernel_rfl) rfl (by decide) (by decide)
/-- a row of the call's own, known whole -/
theorem own_whole {w : World} {B e : Nat} {g n k : Nat} {xs : List Value} (h : w.ownsRow B e k (.slice (some ⟨g, 0, none⟩) n n) n xs) : w.heap[g]? = some (.cells xs.toArray e (0, 0)) := by
  rcases h.2 with ⟨h1, _⟩ | ⟨g', cap, cur, h1, _, hh, _, _, hs, ht⟩
  · cases h1
  · cases h1
    rw [hh]
    congr 2
    rw [← ht, List.take_of_length_le (by rw [Array.length_toList, hs]; exact Nat.le_refl _)]
theorem own_of_whole {w : World} {B e g n k : Nat} {xs : List Value} (h : w.heap[g]? = some (.cells xs.toArray e (0, 0))) (hB : B ≤ g) (hl : xs.length = n * k) (hm : n ≤ maxLen) : w.ownsRow B e k (.slice (some ⟨g, 0, none⟩) n n) n xs :=
  ⟨hl, .inr ⟨g, n, xs.toArray, rfl, hB, h, Nat.le_refl _, hm, by simpa using hl, by rw [← hl]; simp⟩⟩
theorem splice_rep (k m n : Nat) (u z : Value) (h : k + m ≤ n) : splice (List.replicate k u ++ List.replicate (n - k) z) k (List.replicate m u) = List.replicate (k + m) u ++ List.replicate (n - (k + m)) z := by
  unfold splice
  rw [List.length_replicate, List.take_left' (by simp), List.drop_append, List.length_replicate, List.drop_of_length_le (by simp), List.nil_append, List.drop_replicate, ← List.append_assoc, List.replicate_append_replicate]
  congr 2
  omega
theorem rep_src (W : World) (g0 m0 : Nat) (u : Value) (hm : m0 ≤ 1) (h : W.cell? ⟨g0, 0, none⟩ = some u) : ∀ j v, (List.replicate m0 u)[j]? = some v → W.cell? ((⟨g0, 0, none⟩ : Addr).add j) = some v := fun j v hv => by
  have hj := (List.getElem?_eq_some_iff.1 hv).1
  rw [List.length_replicate] at hj
  obtain rfl : j = 0 := by omega
  rw [List.getElem?_replicate, if_pos hj] at hv
  rw [addr_add, ← hv]
  exact h
theorem one_rep (m : Nat) (x : Int) : ∀ v ∈ List.replicate m (Value.int .i64 x), v.oneCell' = true := fun v hv => by
  rw [(List.mem_replicate.1 hv).2]
  simp [Value.oneCell']
def RepPost (n : Nat) (u : Value) (w : World) (e : Ending) (w' : World) : Prop :=
  ∃ g, e = .returned (.slice (some ⟨g, 0, none⟩) n n) ∧ w'.ownsRow w.heap.size 3 1 (.slice (some ⟨g, 0, none⟩) n n) n (List.replicate n u) ∧ Q w w'
set_option maxHeartbeats 2000000 in
set_option maxRecDepth 100000 in
theorem repeat_any (n g0 : Nat) (x : Int) (w : World) (hn : n ≤ 100000) (hg0 : g0 < w.heap.size) (hc0 : w.cell? ⟨g0, 0, none⟩ = some (.int .i64 x)) :
    Calls Tryz.prog 98 #[.slice (some ⟨g0, 0, none⟩) 1 1, .int .i64 (n : Int)] w (RepPost n (.int .i64 x) w) := by
  have hni : (n : Int) ≤ 100000 := by omega
  have HM : Hid (∀ W, Calls Tryz.prog 124 #[.int .u64 1, .int .u64 (n : Int)] W fun e w' => e = .returned (.tuple #[.int .u64 0, .int .u64 (n : Int)]) ∧ W = w') := fun W => by
    refine (Tryz.bits_Mul 1 n (by omega) (by omega) W).mono ?_
    rintro e w' ⟨rfl, rfl⟩
    refine ⟨?_, rfl⟩
    rw [Nat.one_mul, Nat.div_eq_of_lt (by omega), Nat.mod_eq_of_lt (by omega)]
    rfl
  have hb1 : decide ((n : Int) < 0) = false := by simp
  have hb2 : decide ((9223372036854775807 : Int) < (n : Int)) = false := by simp; omega
  obtain ⟨m0, hm0⟩ : ∃ m0, m0 = Nat.min 1 n := ⟨_, rfl⟩
  have hm1 : m0 ≤ n := by rw [hm0]; exact Nat.min_le_right _ _
  have hm2 : m0 ≤ 1 := by rw [hm0]; exact Nat.min_le_left _ _
  have hm3 : 0 < n → m0 = 1 := fun h => by rw [hm0]; exact Nat.min_eq_left h
  have HM0 := hide hm0
  have HM3 := hide hm3
  clear hm0 hm3
  go_enter Tryz.func98, Tryz.ntmps98
  go_wp2_with (first | (go_at_call 124; refine (HM.out _).mono ?_; rintro e w1 ⟨rfl, rfl⟩) | (at_make; refine wpList_mk rfl _ _ rfl Tryz.underlying45 (show (Tryz.prog.info? 3).map (fun i => (i.zero, i.size, i.bytes)) = some (some (.int .i64 0), 1, 8) by kernel_rfl) rfl w.heap.size (n := n) rfl rfl rfl rfl ?_ ?_ ?_ ?_; (focus omega); (focus omega); (focus exact Nat.le_refl _); intro w3 hown3 hq3 hlt3; have HW3 := hide (own_whole hown3); have HQ3 := hide hq3; have hsrc := hide (rep_src w3 g0 m0 _ hm2 ((hq3.facts.1 g0 0 hg0).trans hc0)); clear hown3 hq3) | (with_reducible show wpList _ _ _ _ _ _; (refine wpList_copyk rfl (.tmp 31) (.tmp 32) El_int rfl w.heap.size 0 n n 1 1 m0 _ _ rfl rfl (List.replicate n (Value.int .i64 0)) 3 (List.replicate m0 (Value.int .i64 x)) HW3.out HM0.out (by simp) (fun _ => ⟨rfl, _, rfl, hsrc.out⟩) (by simp; omega) (one_rep _ _) ?_); intro w4 HG4 hgr4 hs4; have HGR4 := hide hgr4; clear hgr4))
  go_loopw [8] (fun vi wr => ∃ k : Nat, k ≤ n ∧ (0 < n → 0 < k) ∧ vi = .int .i64 (k : Int) ∧ Hid (wr.heap[w.heap.size]? = some (.cells (List.replicate k (Value.int .i64 x) ++ List.replicate (n - k) (Value.int .i64 0)).toArray 3 (0, 0))) ∧ Q w wr) (fun vi _ => n - (intOf vi).toNat)
  case atStart =>
    refine ⟨m0, hm1, fun h => by rw [HM3.out h]; exact Nat.zero_lt_one, rfl, ?_, ?_⟩
    · refine hide ?_
      rw [HG4.out]
      have := splice_rep 0 m0 n (Value.int .i64 x) (Value.int .i64 0) (by omega)
      simp only [List.replicate_zero, List.nil_append, Nat.sub_zero, Nat.zero_add] at this
      rw [this]
    · exact q_below (B := w.heap.size) HQ3.out ⟨HGR4.out.os, HGR4.out.tape, HGR4.out.output, HGR4.out.size, fun i hi => HGR4.out.block i (by omega) (fun e => by cases e; omega)⟩ (Nat.le_refl _)
  case round =>
    obtain ⟨k, hk, hk0, rfl, HG, hq⟩ := hrel
    have hsz := hq.size
    have hgl := blk_lt HG.out
    have HQ := hide hq
    clear hq
    by_cases hlt : k < n
    · have hd1 : decide ((k : Int) < (n : Int)) = true := by simp; omega
      have hd0 : decide (k < n) = true := by simp; omega
      have hlti : (k : Int) < (n : Int) := by omega
      have hk1 : 0 < k := hk0 (by omega)
      have hkn : ¬ n = k := by omega
      obtain ⟨m, hm⟩ : ∃ m, m = Nat.min k (n - k) := ⟨_, rfl⟩
      have hm1' : m ≤ k := by rw [hm]; exact Nat.min_le_left _ _
      have hm2' : m ≤ n - k := by rw [hm]; exact Nat.min_le_right _ _
      have hm0 : 0 < m := by rw [hm]; exact Nat.lt_min.2 ⟨hk1, by omega⟩
      have HM := hide hm
      clear hm
      have HS : Hid (∀ W : World, W.heap[w.heap.size]? = some (.cells (List.replicate k (Value.int .i64 x) ++ List.replicate (n - k) (Value.int .i64 0)).toArray 3 (0, 0)) → ∀ j v, (List.replicate m (Value.int .i64 x))[j]? = some v → W.cell? ((⟨w.heap.size, 0, none⟩ : Addr).add j) = some v) := fun W hW j v hv => by
        have hj := (List.getElem?_eq_some_iff.1 hv).1
        rw [List.length_replicate] at hj
        rw [List.getElem?_replicate, if_pos hj] at hv
        rw [addr_add, cell_of_row _ _ _ _ _ _ hW, Nat.zero_add, ← hv]
        simp
        rw [List.getElem?_append_left (by simp; omega), List.getElem?_replicate, if_pos (by omega)]
      have hki : (k : Int) ≤ 100000 := by omega
      have hmi : (m : Int) ≤ 100000 := by omega
      have hsum : IntKind.i64.wrap ((k : Int) + (m : Int)) = (k : Int) + (m : Int) := by rw [IntKind.wrap_i64]; omega
      go_wp2_with fail
      go_region_law (refine step_copyk rfl (.tmp 41) (.tmp 44) El_int rfl w.heap.size k (n - k) (n - k) k n m (some ⟨w.heap.size, k, none⟩) (some ⟨w.heap.size, 0, none⟩) (by simp [Act.eval, Act.put]) (by simp [Act.eval, Act.put]) _ 3 (List.replicate m (Value.int .i64 x)) HG.out HM.out (by simp) (fun _ => ⟨rfl, _, rfl, HS.out _ HG.out⟩) (by simp; omega) (one_rep _ _) ?_; intro w6 HG6 hgr6 hs6; have HGR6 := hide hgr6; clear hgr6)
      go_simp
      go_roundw
      case rel =>
        refine ⟨_, _, _, _, _, _, _, _, _, _, _, _, _, _, ?_, rfl⟩
        refine ⟨k + m, by omega, fun _ => by omega, by go_num, ?_, ?_⟩
        · refine hide ?_
          rw [HG6.out, splice_rep k m n _ _ (by omega)]
        · exact q_below (B := w.heap.size) HQ.out ⟨HGR6.out.os, HGR6.out.tape, HGR6.out.output, HGR6.out.size, fun i hi => HGR6.out.block i (by have := HQ.out.size; simp; omega) (fun e => by cases e; omega)⟩ (Nat.le_refl _)
      case measure => simp [intOf] <;> omega
    · have hd1 : decide ((k : Int) < (n : Int)) = false := by simp; omega
      have hd0 : decide (k < n) = false := by simp; omega
      obtain rfl : k = n := by omega
      go_wp2_with fail
      go_ret
      refine ⟨w.heap.size, rfl, ?_, HQ.out⟩
      have := HG.out
      simp only [Nat.sub_self, List.replicate_zero, List.append_nil] at this
      exact own_of_whole this (Nat.le_refl _) (by simp) (by unfold maxLen; omega)
def undefs (n : Nat) : List Int := List.replicate n (-1)
/-- bytes that are not defined -/
theorem fresh_any (n : Nat) (w : World) (hn : n ≤ 100000) : Calls Tryz.prog 63 #[.int .i64 (n : Int)] w (RepPost n (.int .i64 (-1)) w) := by
  obtain ⟨w1, hw1⟩ : ∃ w1, w.alloc (.cells #[.int .i64 (-1)] 3) = w1 := ⟨_, rfl⟩
  have hq1 : Q w w1 := by rw [← hw1]; exact (Q.refl w).alloc _
  have HC := hide (repeat_any n w.heap.size (-1) w1 hn (by rw [← hw1]; simp) (by rw [← hw1, cell_new]; rfl))
  have HW := hide hw1
  clear hw1
  go_enter Tryz.func63, Tryz.ntmps63
  go_wp2_with fail
  rw [HW.out]
  refine HC.out.mono ?_
  rintro e w2 ⟨g, rfl, hown, hq2⟩
  have HO := hide hown
  clear hown
  go_wp2_with fail
  go_ret
  exact ⟨g, rfl, own_lower HO.out hq1.size, hq1.trans hq2⟩
end Go.Proofs.YtdaklffbfadghaaGreat

namespace Go.Proofs.YtdaklffbfadghaaGreat
open Go.RowKit HP
set_option linter.unusedVariables false
theorem splice_get {α : Type} (L : List α) (off : Nat) (cs : List α) (h : off + cs.length ≤ L.length) (j : Nat) : (splice L off cs)[j]? = if j < off then L[j]? else if j < off + cs.length then cs[j - off]? else L[j]? := by
  unfold splice
  have h1 : (L.take off).length = off := by rw [List.length_take]; omega
  by_cases c1 : j < off
  · rw [if_pos c1, List.getElem?_append_left (by omega), List.getElem?_take, if_pos c1]
  · rw [if_neg c1, List.getElem?_append_right (by omega), h1]
    by_cases c2 : j < off + cs.length
    · rw [if_pos c2, List.getElem?_append_left (by omega)]
    · rw [if_neg c2, List.getElem?_append_right (by omega), List.getElem?_drop]
      congr 1
      omega
theorem splice_len {α : Type} (L : List α) (off : Nat) (cs : List α) (h : off + cs.length ≤ L.length) : (splice L off cs).length = L.length := length_splice L off cs h
/-- a list with some more from place i on -/
def insAt {α : Type} (xs : List α) (i : Nat) (new : List α) : List α := xs.take i ++ (new ++ xs.drop i)
theorem insAt_get {α : Type} (xs : List α) (i : Nat) (new : List α) (h : i ≤ xs.length) (j : Nat) : (insAt xs i new)[j]? = if j < i then xs[j]? else if j < i + new.length then new[j - i]? else xs[j - new.length]? := by
  unfold insAt
  have h1 : (xs.take i).length = i := by rw [List.length_take]; omega
  by_cases c1 : j < i
  · rw [if_pos c1, List.getElem?_append_left (by omega), List.getElem?_take, if_pos c1]
  · rw [if_neg c1, List.getElem?_append_right (by omega), h1]
    by_cases c2 : j < i + new.length
    · rw [if_pos c2, List.getElem?_append_left (by omega)]
    · rw [if_neg c2, List.getElem?_append_right (by omega), List.getElem?_drop]
      congr 1
      omega
theorem insAt_len {α : Type} (xs : List α) (i : Nat) (new : List α) (h : i ≤ xs.length) : (insAt xs i new).length = xs.length + new.length := by
  unfold insAt
  simp only [List.length_append, List.length_take, List.length_drop]
  omega
/-- the row behind two copies -/
theorem ins_row {α : Type} (cur xs new : List α) (i : Nat) (hx : cur.take xs.length = xs) (hi : i ≤ xs.length) (hl : xs.length + new.length ≤ cur.length) :
    (splice (splice cur (i + new.length) (xs.drop i)) i new).take (xs.length + new.length) = insAt xs i new := by
  have hd : (xs.drop i).length = xs.length - i := List.length_drop
  have f1 : i + new.length + (xs.drop i).length ≤ cur.length := by omega
  have f2 : i + new.length ≤ (splice cur (i + new.length) (xs.drop i)).length := by rw [splice_len _ _ _ f1]; omega
  have hcx : ∀ j, j < xs.length → cur[j]? = xs[j]? := fun j hj => by
    conv => rhs; rw [← hx]
    rw [List.getElem?_take, if_pos hj]
  apply List.ext_getElem?
  intro j
  rw [insAt_get xs i new hi, List.getElem?_take]
  by_cases c0 : j < xs.length + new.length
  · rw [if_pos c0, splice_get _ _ _ f2]
    by_cases c1 : j < i
    · rw [if_pos c1, if_pos c1, splice_get _ _ _ f1, if_pos (by omega), hcx j (by omega)]
    · rw [if_neg c1, if_neg c1]
      by_cases c2 : j < i + new.length
      · rw [if_pos c2, if_pos c2]
      · rw [if_neg c2, if_neg c2, splice_get _ _ _ f1, if_neg c2, if_pos (by omega), List.getElem?_drop]
        congr 1
        omega
  · rw [if_neg c0, if_neg (by omega), if_neg (by omega), List.getElem?_eq_none (by omega)]
theorem ins_row' {α : Type} (cur xs new : List α) (i : Nat) (hx : cur.take i = xs.take i) (hi : i ≤ xs.length) (hl : xs.length + new.length ≤ cur.length) :
    (splice (splice cur i new) (i + new.length) (xs.drop i)).take (xs.length + new.length) = insAt xs i new := by
  have hd : (xs.drop i).length = xs.length - i := List.length_drop
  have f1 : i + new.length ≤ cur.length := by omega
  have f2 : i + new.length + (xs.drop i).length ≤ (splice cur i new).length := by rw [splice_len _ _ _ f1]; omega
  have hcx : ∀ j, j < i → cur[j]? = xs[j]? := fun j hj => by
    have := congrArg (fun l => l[j]?) hx
    simpa [List.getElem?_take, hj] using this
  apply List.ext_getElem?
  intro j
  rw [insAt_get xs i new hi, List.getElem?_take]
  by_cases c0 : j < xs.length + new.length
  · rw [if_pos c0, splice_get _ _ _ f2]
    by_cases c1 : j < i
    · rw [if_pos (by omega), if_pos c1, splice_get _ _ _ f1, if_pos c1, hcx j c1]
    · by_cases c2 : j < i + new.length
      · rw [if_pos c2, if_neg c1, if_pos c2, splice_get _ _ _ f1, if_neg c1, if_pos c2]
      · rw [if_neg c2, if_neg c1, if_neg c2, if_pos (by omega), List.getElem?_drop]
        congr 1
        omega
  · rw [if_neg c0, if_neg (by omega), if_neg (by omega), List.getElem?_eq_none (by omega)]
def InsPost (v : Value) (n k : Nat) (xs new : List Value) (w : World) (e : Ending) (w' : World) : Prop :=
  ∃ v', e = .returned v' ∧ w'.ownsRow 0 111 2 v' (n + 1) (insAt xs (k * 2) new) ∧ w.grownBy w' v.ownBlock ∧ ∀ b, v'.ownBlock = some b → v.ownBlock = some b ∨ w.heap.size ≤ b
theorem grown_trans {w0 w w' : World} {row : Option Nat} (h : w0.grownBy w row) (k : w.grownBy w' row) : w0.grownBy w' row :=
  ⟨k.os.trans h.os, k.tape.trans h.tape, k.output.trans h.output, Nat.le_trans h.size k.size, fun i hi hn => (k.block i (Nat.lt_of_lt_of_le hi h.size) hn).trans (h.block i hi hn)⟩
theorem grown_drew {w0 w : World} {row : Option Nat} (h : w0.grownBy w row) : w0.grownBy w.drew row := ⟨h.os, h.tape, h.output, h.size, h.block⟩
theorem grown_refl (w : World) (row : Option Nat) : w.grownBy w row := ⟨rfl, rfl, rfl, Nat.le_refl _, fun _ _ _ => rfl⟩
theorem grown_of_none {w w' : World} {row : Option Nat} (h : w.grownBy w' none) : w.grownBy w' row := ⟨h.os, h.tape, h.output, h.size, fun i hi _ => h.block i hi (by simp)⟩
theorem grown_of_q {w w' : World} {row : Option Nat} (h : Q w w') : w.grownBy w' row := ⟨h.below.os, h.below.tape, h.below.output, h.size, fun i hi _ => h.below.block i hi⟩
theorem wpList_appsg {P : Program} {t e size bytes : Nat} {w : World} {base : Nat} {ops : Array Oper} {rest : List Oper} {o : Oper} {a : Act} {Q' : Exit → Act → World → Prop} {v : Value} {n : Nat} {xs : List Value}
    (hgd : o.guard = none) (E : El P t e size bytes) (s x : Operand) (ho : o.op = .call { callee := .builtin .append, args := #[s, x], argTypes := #[t, t] })
    (hs : a.eval s = v) (hown : w.ownsRow base e size v n xs) {A : Option Addr} {m c B : Nat} {news : List Value} (hx : a.eval x = .slice A m c) (hA : A = none → m = 0 ∧ c = 0) (hl : news.length = m * size) (hr : Rd w B A news) (h1 : ∀ u ∈ news, u.oneCell' = true)
    (hb : (n + m) * bytes ≤ 140737488355328) (hbase : base ≤ w.heap.size)
    (h : ∀ v' w', w'.ownsRow base e size v' (n + m) (xs ++ news) → w.grownBy w' v.ownBlock → wpList P ops Q' rest (a.put o.dst v') w') : wpList P ops Q' (o :: rest) a w := by
  obtain ⟨i, z, hi, hz, hsz, hby, hzs⟩ := E.inf
  rcases A with _ | ad
  · obtain ⟨rfl, rfl⟩ := hA rfl
    have : news = [] := List.eq_nil_of_length_eq_zero (by simpa using hl)
    subst this
    refine wpList_append_own_none hgd s x t ho base e i size E.und hi v n xs hs hown hx (h v w (by simpa using hown) (grown_refl _ _))
  · have hle : n + m ≤ (n + m) * bytes := Nat.le_mul_of_pos_right _ E.bpos
    refine wpList_append_own _ hgd s x t ho base e i z size bytes E.und hi hz hsz hby hzs E.pos v n xs hs hown ad m c news hx hl (fun j u hu => ?_) h1 (by simp only [maxLen]; omega) hb hbase (fun v' w' h2 h3 _ => h v' w' h2 h3)
    rcases hr with rfl | ⟨b, o, h2, _, h3⟩
    · simp at hu
    · obtain rfl := Option.some.inj h2
      rw [addr_add]
      exact h3 j u hu
set_option maxHeartbeats 2000000 in
/-- behind the last one -/
theorem insert_end (A : Option Addr) (n c vb : Nat) (xs : List Value) (p q : Value) (w : World) (h : w.ownsRow 0 111 2 (.slice A n c) n xs) (hn : n ≤ 100) (hA : A = none → c = 0) (hv : w.heap[vb]? = some (.cells #[p, q] 111 (0, 0))) (hp : p.oneCell' = true) (hq : q.oneCell' = true) :
    Calls Tryz.prog 97 #[.slice A n c, .int .i64 (n : Int), .slice (some ⟨vb, 0, none⟩) 1 1] w (InsPost (.slice A n c) n n xs [p, q] w) := by
  have hni : (n : Int) ≤ 100 := by omega
  obtain ⟨A', c', e', hnc, hc1, hl, hr⟩ := own_form h
  cases e'
  have H := hide h
  have HL : Hid (xs.length = n * 2) := hide hl
  have HV : Hid (Rd w w.heap.size (some ⟨vb, 0, none⟩) [p, q]) := .inr ⟨vb, 0, rfl, blk_lt hv, fun j u hu => by rw [cell_of_row _ _ _ _ _ _ hv, Nat.zero_add, ← hu]; simp⟩
  have H1 : Hid (∀ u ∈ [p, q], u.oneCell' = true) := fun u hu => by
    simp at hu
    rcases hu with rfl | rfl
    · exact hp
    · exact hq
  unfold maxLen at hc1
  have hci : (c : Int) ≤ 9223372036854775807 := by omega
  clear h hl hr hv hp hq
  have HE : Hid (insAt xs (n * 2) [p, q] = xs ++ [p, q]) := by
    unfold insAt
    rw [List.drop_of_length_le (by rw [HL.out]; exact Nat.le_refl _), List.append_nil, List.take_of_length_le (by rw [HL.out]; exact Nat.le_refl _)]
    exact hide rfl
  by_cases hnn : c = n
  · subst hnn
    cases A with
    | none =>
      obtain rfl : c = 0 := hA rfl
      have HN : Hid (w.ownsRow w.heap.size 111 2 (.slice none 0 0) 0 xs) := by
        obtain rfl : xs = [] := List.eq_nil_of_length_eq_zero (by rw [HL.out])
        exact World.ownsRow_nil w w.heap.size _ 2
      go_enter Tryz.func97, Tryz.ntmps97
      go_wp2_with (at_builtin; refine wpList_appsg rfl El_bk _ _ rfl rfl HN.out rfl (fun h => by cases h) rfl HV.out H1.out ?_ ?_ ?_; (focus omega); (focus exact Nat.le_refl _); intro v3 w3 hown3 hgr3; have HO3 := hide hown3; have HG3 := hide hgr3; clear hown3 hgr3)
      go_ret
      exact ⟨_, rfl, by rw [HE.out]; exact own_lower HO3.out (Nat.zero_le _), HG3.out, fun b hb => .inr (HO3.out.lt b hb).1⟩
    | some ad =>
      obtain ⟨v3, w3, hrun, HO3, HG3⟩ : ∃ v3 w3, (Builtin.append_ #[81, 81] 81 #[.slice (some ad) c c, .slice (some ⟨vb, 0, none⟩) 1 1]).run Tryz.prog w = .ok v3 w3 ∧ Hid (w3.ownsRow w.heap.size 111 2 v3 (c + 1) (xs ++ [p, q])) ∧ Hid (w.grownBy w3 none) := by
        obtain ⟨i, z, hi, hz, hsz, hby, hzs⟩ := El_bk.inf
        have hg := fun ty => run_append_arg_grows (P := Tryz.prog) w 81 ty 111 i z 2 32 Tryz.underlying81 hi hz hsz hby hzs (by decide) ad c c xs HL.out (fun j u hu => by
          have := H.out.cells (g := ad.block) rfl j u hu
          rcases H.out.2 with ⟨h1, _⟩ | ⟨g, cap, cur, h1, _⟩
          · cases h1
          · cases h1
            exact this) ⟨vb, 0, none⟩ 1 1 [p, q] rfl (fun j u hu => by
          rcases HV.out with h1 | ⟨b, o, h1, _, h2⟩
          · cases h1
          · cases h1
            rw [addr_add]
            exact h2 j u hu) (by omega) (by unfold maxLen; omega) (by omega)
        obtain ⟨v3, w3, h1, h2, h3⟩ := hg 81
        exact ⟨v3, w3, h1, h2, h3⟩
      have HR := hide hrun
      clear hrun
      go_enter Tryz.func97, Tryz.ntmps97
      go_wp2_with (at_builtin; refine Lib.wpList_append_run _ rfl _ _ _ _ rfl _ _ rfl rfl _ _ HR.out ?_)
      go_ret
      exact ⟨_, rfl, by rw [HE.out]; exact own_lower HO3.out (Nat.zero_le _), grown_of_none HG3.out, fun b hb => .inr (HO3.out.lt b hb).1⟩
  · cases A with
    | none =>
      have := hA rfl
      omega
    | some ad =>
      obtain ⟨w3, hrun, HO3, HG3⟩ : ∃ w3, (∀ ty, (Builtin.append_ #[81, 81] ty #[.slice (some ad) n c, .slice (some ⟨vb, 0, none⟩) 1 1]).run Tryz.prog w = .ok (.slice (some ad) (n + 1) c) w3) ∧ Hid (w3.ownsRow 0 111 2 (.slice (some ad) (n + 1) c) (n + 1) (xs ++ [p, q])) ∧ Hid (w.grownBy w3 (some ad.block)) := by
        obtain ⟨g, cap, cur, he, -, hh, hnc', hcm, hcs, htk⟩ : ∃ g' cap cur, Value.slice (some ad) n c = .slice (some ⟨g', 0, none⟩) n cap ∧ 0 ≤ g' ∧ w.heap[g']? = some (.cells cur 111 (0, 0)) ∧ n ≤ cap ∧ cap ≤ maxLen ∧ cur.size = cap * 2 ∧ cur.toList.take (n * 2) = xs := by
          rcases H.out.2 with ⟨h1, _⟩ | h1
          · cases h1
          · exact h1
        cases he
        have hr := fun ty => run_append_roomk (P := Tryz.prog) El_bk ty g 0 n c 1 1 ⟨vb, 0, none⟩ cur 111 [p, q] hh rfl (fun j u hu => by
          rcases HV.out with h1 | ⟨b, o, h1, _, h2⟩
          · cases h1
          · cases h1
            rw [addr_add]
            exact h2 j u hu) H1.out (by omega) (by rw [hcs]; simp; omega)
        refine ⟨_, hr, ⟨by rw [List.length_append, HL.out]; simp; omega, .inr ⟨g, c, _, rfl, Nat.zero_le _, setRow_heap w g _ _ _ _ hh, by omega, hcm, ?_, ?_⟩⟩, grown_setRow _ _ _⟩
        · rw [List.size_toArray, splice_len _ _ _ (by simp [hcs]; omega)]
          simpa using hcs
        · show (splice cur.toList (0 + n * 2) [p, q]).take ((n + 1) * 2) = _
          rw [← htk]
          unfold splice
          rw [Nat.zero_add, ← List.append_assoc, List.take_left' (by simp [hcs]; omega)]
      have HR := hide hrun
      clear hrun
      go_enter Tryz.func97, Tryz.ntmps97
      go_wp2_with (at_builtin; refine Lib.wpList_append_run _ rfl _ _ _ _ rfl _ _ rfl rfl _ _ (HR.out _) ?_)
      go_ret
      exact ⟨_, rfl, by rw [HE.out]; exact HO3.out, HG3.out, fun b hb => .inl hb⟩
set_option maxHeartbeats 4000000 in
set_option maxRecDepth 100000 in
/-- before one of them, where there is room: in place -/
theorem insert_room (g n c k vb : Nat) (xs : List Value) (p q : Value) (w : World) (h : w.ownsRow 0 111 2 (.slice (some ⟨g, 0, none⟩) n c) n xs) (hn : n ≤ 100) (hk : k < n) (hc : n + 1 ≤ c) (hv : w.heap[vb]? = some (.cells #[p, q] 111 (0, 0))) (hne : vb ≠ g) (hp : p.oneCell' = true) (hq : q.oneCell' = true) (hx1 : ∀ u ∈ xs, u.oneCell' = true) :
    Calls Tryz.prog 97 #[.slice (some ⟨g, 0, none⟩) n c, .int .i64 (k : Int), .slice (some ⟨vb, 0, none⟩) 1 1] w (InsPost (.slice (some ⟨g, 0, none⟩) n c) n k xs [p, q] w) := by
  have hni : (n : Int) ≤ 100 := by omega
  have hki : (k : Int) < (n : Int) := by omega
  obtain ⟨g', cap, cur, he, -, hh, hnc, hcm, hcs, htk⟩ : ∃ g' cap cur, Value.slice (some ⟨g, 0, none⟩) n c = .slice (some ⟨g', 0, none⟩) n cap ∧ 0 ≤ g' ∧ w.heap[g']? = some (.cells cur 111 (0, 0)) ∧ n ≤ cap ∧ cap ≤ maxLen ∧ cur.size = cap * 2 ∧ cur.toList.take (n * 2) = xs := by
    rcases h.2 with ⟨h1, _⟩ | h1
    · cases h1
    · exact h1
  cases he
  have hxl := h.1
  have hcm' := hcm
  unfold maxLen at hcm'
  have hov : ∀ lb cb, (callFunc 122 #[.slice (some ⟨vb, 0, none⟩) 1 1, .slice (some ⟨g, (k + 1) * 2, none⟩) lb cb]).run Tryz.prog w = .ok (.value (.bool false)) w := fun lb cb => by
    rw [run_callFunc_extern Tryz.func122 (by kernel_rfl) (by kernel_rfl) (by kernel_rfl) (e := Extern.SlicesOverlaps.overlaps #[81, 81] #[4]) (by kernel_rfl),
      Lib.run_overlaps_apart w 81 4 111 Tryz.underlying81 2 Tryz.sizeOf111 ⟨vb, 0, none⟩ ⟨g, (k + 1) * 2, none⟩ 1 1 lb cb hne 111 111 2 (c * 2) (by simp [World.shape?, hv]) (by simp [World.shape?, hh, hcs]) (by omega) (by simp [World.frozen?, hv]) (by simp [World.frozen?, hv])]
    rfl
  have HOV := hide hov
  have HH : Hid (w.drew.heap[g]? = some (.cells cur.toList.toArray 111 (0, 0))) := by rw [Array.toArray_toList]; exact hh
  have hcl : cur.toList.length = c * 2 := by simpa using hcs
  have HROW := hide (ins_row cur.toList xs [p, q] (k * 2) (by rw [hxl]; exact htk) (by rw [hxl]; omega) (by rw [hxl, hcl]; simp; omega))
  have hxd : (xs.drop (k * 2)).length = (n - k) * 2 := by rw [List.length_drop, hxl]; omega
  have HXD := hide hxd
  have HCL := hide hcl
  have HXL := hide hxl
  have HMV : Hid (∀ j v, (xs.drop (k * 2))[j]? = some v → w.drew.cell? ((⟨g, k * 2, none⟩ : Addr).add j) = some v) := fun j v hj => by
    rw [addr_add]
    show w.cell? _ = _
    rw [cell_of_row _ _ _ _ _ _ hh, ← hj, List.getElem?_drop, ← htk, List.getElem?_take, Array.getElem?_toList, if_pos]
    have := (List.getElem?_eq_some_iff.1 hj).1
    rw [hxd] at this
    omega
  have HM1 : Hid (∀ v ∈ xs.drop (k * 2), v.oneCell' = true) := fun v hv => hx1 v (List.mem_of_mem_drop hv)
  have HV1 : Hid (∀ v ∈ [p, q], v.oneCell' = true) := fun u hu => by
    simp at hu
    rcases hu with rfl | rfl
    · exact hp
    · exact hq
  have HVS : Hid (∀ W : World, W.heap[vb]? = w.heap[vb]? → ∀ j v, [p, q][j]? = some v → W.cell? ((⟨vb, 0, none⟩ : Addr).add j) = some v) := fun W hW j v hj => by
    rw [addr_add, cell_of_row _ _ _ _ _ _ (hW.trans hv), Nat.zero_add, ← hj]
    simp
  have HVB := hide (blk_lt hv)
  have HNE := hide hne
  have HCM := hide hcm
  have hb1 : (0 : Int) ≤ (k : Int) + 1 := by omega
  have hb2 : ¬ (c = k + 1) := by omega
  have hb4 : ¬ (c = k) := by omega
  have hb3 : (k : Int) ≤ (n : Int) + 1 := by omega
  have hb5 : (k : Int) + 1 ≤ (n : Int) + 1 := by omega
  have hz2 : ¬ ((k : Int) = (n : Int)) := by omega
  have htn : ((k : Int) + 1).toNat = k + 1 := by omega
  have hw1 : IntKind.i64.wrap ((k : Int) + 1) = (k : Int) + 1 := by rw [IntKind.wrap_i64]; omega
  clear h hov hh hcs htk hcl hxl hxd hx1 hv hne hp hq hcm
  go_enter Tryz.func97, Tryz.ntmps97
  go_wp2_with (simp only [HOV.out])
  go_region_law (refine step_copyk rfl (.tmp 73) (.tmp 76) El_bk rfl g (k * 2 + 2) (n + 1 - (k + 1)) (c - (k + 1)) (n + 1 - k) (c - k) (n - k) (some ⟨g, (k + 1) * 2, none⟩) (some ⟨g, k * 2, none⟩) (by simp [Act.eval, Act.put]) (by simp [Act.eval, Act.put]) cur.toList 111 (xs.drop (k * 2)) HH.out (by simp only [Nat.min_def]; split <;> omega) HXD.out (fun _ => ⟨by rw [show (k + 1) * 2 = k * 2 + 2 by omega], _, rfl, HMV.out⟩) (by rw [HXD.out, HCL.out]; omega) HM1.out ?_; intro w6 HG6 hgr6 hs6; have HGR6 := hide hgr6; clear hgr6)
  go_wp2_with ((with_reducible show wpList _ _ _ _ _ _); (refine wpList_copyk rfl (.tmp 80) (.tmp 81) El_bk rfl g (k * 2) (n + 1 - k) (c - k) 1 1 1 (some ⟨g, k * 2, none⟩) _ rfl rfl _ 111 [p, q] HG6.out (by simp only [Nat.min_def]; split <;> omega) rfl (fun _ => ⟨rfl, _, rfl, HVS.out _ (HGR6.out.block vb HVB.out (fun e => HNE.out (Option.some.inj e)))⟩) (by rw [splice_len _ _ _ (by rw [HXD.out, HCL.out]; omega), HCL.out]; simp; omega) HV1.out ?_); intro w7 HG7 hgr7 hs7; have HGR7 := hide hgr7; clear hgr7)
  go_ret
  refine ⟨_, rfl, ⟨?_, .inr ⟨g, c, _, rfl, Nat.zero_le _, HG7.out, by omega, HCM.out, ?_, ?_⟩⟩, grown_trans (grown_trans (grown_drew (grown_refl _ _)) HGR6.out) HGR7.out, fun b hb => .inl hb⟩
  · rw [insAt_len _ _ _ (by rw [HXL.out]; omega), HXL.out]
    simp
    omega
  · rw [List.size_toArray, splice_len, splice_len, HCL.out]
    · rw [HXD.out, HCL.out]; omega
    · rw [splice_len, HCL.out]
      · simp; omega
      · rw [HXD.out, HCL.out]; omega
  · rw [← HROW.out, HXL.out]
    simp
    congr 1
    omega
end Go.Proofs.YtdaklffbfadghaaGreat

namespace Go.Proofs.YtdaklffbfadghaaGreat
open Go.RowKit HP
set_option linter.unusedVariables false
def GrowsTo (g n k : Nat) (xs : List Value) (w : World) (G : Nat) (ROW : List Value) (W1 : World) : Prop :=
  W1.heap[w.heap.size]? = some (.cells ROW.toArray 111 (0, 0)) ∧ ROW.length = G * 2 ∧ ROW.take (k * 2) = xs.take (k * 2) ∧ Q w W1
set_option maxRecDepth 100000 in
theorem grow_run (g n k : Nat) (xs : List Value) (w : World) (h : w.ownsRow 0 111 2 (.slice (some ⟨g, 0, none⟩) n n) n xs) (hn : n ≤ 100) (hk : k < n) :
    ∃ G ROW W1, n + 1 ≤ G ∧ G ≤ 9223372036854775807 ∧ Hid (GrowsTo g n k xs w G ROW W1) ∧ (∀ ty, (Builtin.append_ #[81, 3] ty #[.slice (some ⟨g, 0, none⟩) k n, .int .i64 ((n : Int) + 1 - (k : Int))]).run Tryz.prog w = .ok (.slice (some ⟨w.heap.size, 0, none⟩) (n + 1) G) W1) := by
  obtain ⟨i, z, hi, hz, hsz, hby, hzs⟩ := El_bk.inf
  have hxl := h.1
  have hold : (Builtin.firstCells i.size k (.slice (some ⟨g, 0, none⟩) k n)).run Tryz.prog w.drew = .ok (xs.take (k * 2)).toArray w.drew := by
    rw [hsz]
    refine run_firstCells_some w.drew 2 k ⟨g, 0, none⟩ k n (xs.take (k * 2)) (by rw [List.length_take, hxl]; omega) (fun j v hj => ?_)
    have := h.cells (g := g) rfl j v (by
      rw [List.getElem?_take] at hj
      split at hj
      · exact hj
      · cases hj)
    exact this
  have hkk : (n : Int) + 1 - (k : Int) = ((n + 1 - k : Nat) : Int) := by omega
  have hik : k + (n + 1 - k) = n + 1 := by omega
  have hr := fun ty => Lib.run_append_grow_zeros (P := Tryz.prog) w 81 3 ty 111 i z .i64 .i64 Tryz.underlying81 Tryz.underlying3 hi hz (some ⟨g, 0, none⟩) k n (xs.take (k * 2)) hold (n + 1 - k) (by omega) (by omega) (by omega) (by omega) (by rw [hby]; omega) (by rw [hby, hik]; exact growslice_fits (by omega) (by omega))
  rw [hik] at hr
  refine ⟨grownCap w (n + 1) n 111, xs.take (k * 2) ++ ((Builtin.zeroCells z.cells (n + 1 - k)).toList ++ (Builtin.zeroCells z.cells (grownCap w (n + 1) n 111 - (n + 1))).toList), _, grownCap_ge _ _ _ _, ?_, ?_, fun ty => by rw [hkk]; exact hr ty⟩
  · have := grownCap_le_maxLen w (n + 1) n 111 (by unfold maxLen; omega)
    unfold maxLen at this
    omega
  · refine hide ⟨?_, ?_, ?_, ((Q.refl w).drew).alloc _⟩
    · rw [show w.heap.size = w.drew.heap.size from rfl, heap_alloc_new]
      congr 2
      apply Array.ext'
      simp
    · have := grownCap_ge w (n + 1) n 111
      simp only [List.length_append, List.length_take, Array.length_toList, size_zeroCells, hzs, hxl]
      omega
    · rw [List.take_left' (by rw [List.length_take, hxl]; omega)]
set_option maxHeartbeats 4000000 in
set_option maxRecDepth 100000 in
/-- before one of them, where there is no room: a new row -/
theorem insert_grow (g n k vb : Nat) (xs : List Value) (p q : Value) (w : World) (h : w.ownsRow 0 111 2 (.slice (some ⟨g, 0, none⟩) n n) n xs) (hn : n ≤ 100) (hk : k < n) (hv : w.heap[vb]? = some (.cells #[p, q] 111 (0, 0))) (hp : p.oneCell' = true) (hq : q.oneCell' = true) (hx1 : ∀ u ∈ xs, u.oneCell' = true) :
    Calls Tryz.prog 97 #[.slice (some ⟨g, 0, none⟩) n n, .int .i64 (k : Int), .slice (some ⟨vb, 0, none⟩) 1 1] w (InsPost (.slice (some ⟨g, 0, none⟩) n n) n k xs [p, q] w) := by
  have hni : (n : Int) ≤ 100 := by omega
  have hki : (k : Int) < (n : Int) := by omega
  obtain ⟨G, ROW, W1, hG1, hG2, HGT, hrz⟩ := grow_run g n k xs w h hn hk
  have HRZ := hide hrz
  have hxl := h.1
  have hgl : g < w.heap.size := (h.lt g rfl).2
  have hvl := blk_lt hv
  have hxd : (xs.drop (k * 2)).length = (n - k) * 2 := by rw [List.length_drop, hxl]; omega
  have HXD := hide hxd
  have HXL := hide hxl
  have HRL := hide HGT.out.2.1
  have HMV : Hid (∀ W : World, (∀ b, b < w.heap.size → W.heap[b]? = w.heap[b]?) → ∀ j v, (xs.drop (k * 2))[j]? = some v → W.cell? ((⟨g, k * 2, none⟩ : Addr).add j) = some v) := fun W hW j v hj => by
    rw [addr_add]
    rw [List.getElem?_drop] at hj
    have := h.cells (g := g) rfl (k * 2 + j) v hj
    rw [addr_add, Nat.zero_add] at this
    rw [← this]
    exact World.cell?_of_block (w := w) (hW g hgl)
  have HM1 : Hid (∀ v ∈ xs.drop (k * 2), v.oneCell' = true) := fun v hv => hx1 v (List.mem_of_mem_drop hv)
  have HV1 : Hid (∀ v ∈ [p, q], v.oneCell' = true) := fun u hu => by
    simp at hu
    rcases hu with rfl | rfl
    · exact hp
    · exact hq
  have HVS : Hid (∀ W : World, (∀ b, b < w.heap.size → W.heap[b]? = w.heap[b]?) → ∀ j v, [p, q][j]? = some v → W.cell? ((⟨vb, 0, none⟩ : Addr).add j) = some v) := fun W hW j v hj => by
    rw [addr_add, cell_of_row _ _ _ _ _ _ ((hW vb hvl).trans hv), Nat.zero_add, ← hj]
    simp
  have HW1 : Hid (∀ b, b < w.heap.size → W1.heap[b]? = w.heap[b]?) := fun b hb => HGT.out.2.2.2.below.block b hb
  have HROW := hide (ins_row' ROW xs [p, q] (k * 2) HGT.out.2.2.1 (by rw [hxl]; omega) (by rw [hxl, HRL.out]; simp; omega))
  have HQ := hide HGT.out.2.2.2
  have HH := hide HGT.out.1
  have hb1 : (0 : Int) ≤ (k : Int) + 1 := by omega
  have hb2 : ¬ (G = k + 1) := by omega
  have hb3 : ¬ (G = k) := by omega
  have hb4 : ¬ (n = k) := by omega
  have hkn : k ≤ n := by omega
  have hb5 : (k : Int) + 1 ≤ (n : Int) + 1 := by omega
  have hb6 : (k : Int) ≤ (n : Int) + 1 := by omega
  have hz2 : ¬ ((k : Int) = (n : Int)) := by omega
  have htn : ((k : Int) + 1).toNat = k + 1 := by omega
  have hw1 : IntKind.i64.wrap ((k : Int) + 1) = (k : Int) + 1 := by rw [IntKind.wrap_i64]; omega
  clear h hxl hxd hx1 hv hp hq hrz HGT
  go_enter Tryz.func97, Tryz.ntmps97
  go_wp2_with (first | (at_builtin; refine Lib.wpList_append_run _ rfl _ _ _ _ rfl _ _ rfl rfl _ _ (HRZ.out _) ?_) | ((with_reducible show wpList _ _ _ _ _ _); (refine wpList_copyk rfl (.tmp 43) (.tmp 44) El_bk rfl w.heap.size (k * 2) (n + 1 - k) (G - k) 1 1 1 (some ⟨w.heap.size, k * 2, none⟩) _ rfl rfl ROW 111 [p, q] HH.out (by simp only [Nat.min_def]; split <;> omega) rfl (fun _ => ⟨rfl, _, rfl, HVS.out _ HW1.out⟩) (by rw [HRL.out]; simp; omega) HV1.out ?_); intro w7 HG7 hgr7 hs7; have HGR7 := hide hgr7; have HW7 : Hid (∀ b, b < w.heap.size → w7.heap[b]? = w.heap[b]?) := (fun b hb => (hgr7.block b (by have := HQ.out.size; omega) (fun e => by have := Option.some.inj e; omega)).trans (HW1.out b hb)); clear hgr7))
  go_region_law (refine step_copyk rfl (.tmp 50) (.tmp 53) El_bk rfl w.heap.size (k * 2 + 2) (n + 1 - (k + 1)) (G - (k + 1)) (n - k) (n - k) (n - k) (some ⟨w.heap.size, (k + 1) * 2, none⟩) (some ⟨g, k * 2, none⟩) (by simp [Act.eval, Act.put]) (by simp [Act.eval, Act.put]) _ 111 (xs.drop (k * 2)) HG7.out (by simp only [Nat.min_def]; split <;> omega) HXD.out (fun _ => ⟨by rw [show (k + 1) * 2 = k * 2 + 2 by omega], _, rfl, HMV.out _ HW7.out⟩) (by rw [HXD.out, splice_len _ _ _ (by rw [HRL.out]; simp; omega), HRL.out]; omega) HM1.out ?_; intro w6 HG6 hgr6 hs6; have HGR6 := hide hgr6; clear hgr6)
  go_wp2_with fail
  go_ret
  have HQ6 : Q w w6 := by
    have h1 := HQ.out.size
    refine q_below (B := w.heap.size) (q_below (B := w.heap.size) HQ.out ⟨HGR7.out.os, HGR7.out.tape, HGR7.out.output, HGR7.out.size, fun i hi => HGR7.out.block i (by omega) (fun e => by have := Option.some.inj e; omega)⟩ (Nat.le_refl _)) (w' := w6) ⟨HGR6.out.os, HGR6.out.tape, HGR6.out.output, HGR6.out.size, fun i hi => HGR6.out.block i (by have h2 : w7.drew.heap.size = w7.heap.size := rfl; omega) (fun e => by have := Option.some.inj e; omega)⟩ (Nat.le_refl _)
  refine ⟨_, rfl, ⟨?_, .inr ⟨w.heap.size, G, _, rfl, Nat.zero_le _, HG6.out, by omega, by unfold maxLen; omega, ?_, ?_⟩⟩, grown_of_q HQ6, fun b hb => .inr (by cases hb; exact Nat.le_refl _)⟩
  · rw [insAt_len _ _ _ (by rw [HXL.out]; omega), HXL.out]
    simp
    omega
  · rw [List.size_toArray, splice_len, splice_len, HRL.out]
    · rw [HRL.out]; simp; omega
    · rw [splice_len, HRL.out]
      · rw [HXD.out]; omega
      · rw [HRL.out]; simp; omega
  · rw [← HROW.out, HXL.out]
    simp
    congr 1
    omega
theorem insert_any (A : Option Addr) (n c k vb : Nat) (xs : List Value) (p q : Value) (w : World) (h : w.ownsRow 0 111 2 (.slice A n c) n xs) (hn : n ≤ 100) (hk : k ≤ n) (hv : w.heap[vb]? = some (.cells #[p, q] 111 (0, 0))) (hne : (Value.slice A n c).ownBlock ≠ some vb) (hp : p.oneCell' = true) (hq : q.oneCell' = true) (hx1 : ∀ u ∈ xs, u.oneCell' = true) :
    Calls Tryz.prog 97 #[.slice A n c, .int .i64 (k : Int), .slice (some ⟨vb, 0, none⟩) 1 1] w (InsPost (.slice A n c) n k xs [p, q] w) := by
  have hcA : A = none → c = 0 ∧ n = 0 := fun e => by
    subst e
    rcases h.2 with ⟨h1, h2⟩ | ⟨g, cap, cur, h1, _⟩
    · cases h1; exact ⟨rfl, h2⟩
    · cases h1
  by_cases hkn : k = n
  · subst hkn
    exact insert_end A k c vb xs p q w h hn (fun e => (hcA e).1) hv hp hq
  · cases A with
    | none => have := (hcA rfl).2; omega
    | some ad =>
      have hA : ∃ g, ad = ⟨g, 0, none⟩ := by
        rcases h.2 with ⟨h1, _⟩ | ⟨g, cap, cur, h1, _⟩
        · cases h1
        · cases h1; exact ⟨g, rfl⟩
      obtain ⟨g, rfl⟩ := hA
      obtain ⟨_, _, e, hnc, _⟩ := own_form h
      cases e
      by_cases hc : n = c
      · subst hc
        exact insert_grow g n k vb xs p q w h hn (by omega) hv hp hq hx1
      · exact insert_room g n c k vb xs p q w h hn (by omega) (by omega) hv (fun e => hne (by rw [e]; rfl)) hp hq hx1
end Go.Proofs.YtdaklffbfadghaaGreat

namespace Go.Proofs.YtdaklffbfadghaaGreat
open Go.RowKit HP
set_option linter.unusedVariables false
/-- a list without m from place i on -/
def delAt {α : Type} (xs : List α) (i m : Nat) : List α := xs.take i ++ xs.drop (i + m)
theorem delAt_get {α : Type} (xs : List α) (i m : Nat) (h : i ≤ xs.length) (j : Nat) : (delAt xs i m)[j]? = if j < i then xs[j]? else xs[j + m]? := by
  unfold delAt
  have h1 : (xs.take i).length = i := by rw [List.length_take]; omega
  by_cases c1 : j < i
  · rw [if_pos c1, List.getElem?_append_left (by omega), List.getElem?_take, if_pos c1]
  · rw [if_neg c1, List.getElem?_append_right (by omega), h1, List.getElem?_drop]
    congr 1
    omega
theorem delAt_len {α : Type} (xs : List α) (i m : Nat) (h : i + m ≤ xs.length) : (delAt xs i m).length = xs.length - m := by
  unfold delAt
  simp only [List.length_append, List.length_take, List.length_drop]
  omega
theorem del_row {α : Type} (cur xs zs : List α) (i m : Nat) (hx : cur.take xs.length = xs) (hi : i + m ≤ xs.length) (hl : xs.length ≤ cur.length) (hz : zs.length = m) :
    (splice (splice cur i (xs.drop (i + m))) (xs.length - m) zs).take (xs.length - m) = delAt xs i m := by
  have hd : (xs.drop (i + m)).length = xs.length - (i + m) := List.length_drop
  have f1 : i + (xs.drop (i + m)).length ≤ cur.length := by omega
  have f2 : xs.length - m + zs.length ≤ (splice cur i (xs.drop (i + m))).length := by rw [splice_len _ _ _ f1]; omega
  have hcx : ∀ j, j < xs.length → cur[j]? = xs[j]? := fun j hj => by
    conv => rhs; rw [← hx]
    rw [List.getElem?_take, if_pos hj]
  apply List.ext_getElem?
  intro j
  rw [delAt_get xs i m (by omega), List.getElem?_take]
  by_cases c0 : j < xs.length - m
  · rw [if_pos c0, splice_get _ _ _ f2, if_pos c0, splice_get _ _ _ f1]
    by_cases c1 : j < i
    · rw [if_pos c1, if_pos c1, hcx j (by omega)]
    · rw [if_neg c1, if_neg c1, if_pos (by omega), List.getElem?_drop]
      congr 1
      omega
  · rw [if_neg c0, if_neg (by omega), List.getElem?_eq_none (by omega)]
def DelPost (v : Value) (n k : Nat) (xs : List Value) (w : World) (e : Ending) (w' : World) : Prop :=
  ∃ v', e = .returned v' ∧ v'.ownBlock = v.ownBlock ∧ w'.ownsRow 0 111 2 v' (n - 1) (delAt xs (k * 2) 2) ∧ w.grownBy w' v.ownBlock
set_option maxHeartbeats 4000000 in
set_option maxRecDepth 100000 in
theorem delete_any (A : Option Addr) (n c k : Nat) (xs : List Value) (w : World) (h : w.ownsRow 0 111 2 (.slice A n c) n xs) (hn : n ≤ 100) (hk : k < n) (hx1 : ∀ u ∈ xs, u.oneCell' = true) :
    Calls Tryz.prog 139 #[.slice A n c, .int .i64 (k : Int), .int .i64 ((k : Int) + 1)] w (DelPost (.slice A n c) n k xs w) := by
  have hni : (n : Int) ≤ 100 := by omega
  have hki : (k : Int) < (n : Int) := by omega
  obtain ⟨g, cap, cur, he, -, hh, hnc, hcm, hcs, htk⟩ : ∃ g' cap cur, Value.slice A n c = .slice (some ⟨g', 0, none⟩) n cap ∧ 0 ≤ g' ∧ w.heap[g']? = some (.cells cur 111 (0, 0)) ∧ n ≤ cap ∧ cap ≤ maxLen ∧ cur.size = cap * 2 ∧ cur.toList.take (n * 2) = xs := by
    rcases h.2 with ⟨h1, h2⟩ | h1
    · omega
    · exact h1
  cases he
  have hxl := h.1
  have hcm' := hcm
  unfold maxLen at hcm'
  have HH : Hid (w.drew.heap[g]? = some (.cells cur.toList.toArray 111 (0, 0))) := by rw [Array.toArray_toList]; exact hh
  have hcl : cur.toList.length = c * 2 := by simpa using hcs
  have hxd : (xs.drop ((k + 1) * 2)).length = (n - (k + 1)) * 2 := by rw [List.length_drop, hxl]; omega
  have HXD := hide hxd
  have HCL := hide hcl
  have HXL := hide hxl
  have HTK := hide htk
  obtain ⟨ad, had, HMV⟩ : ∃ ad : Addr, (if c = k + 1 then some (⟨g, 0, none⟩ : Addr) else some ⟨g, (k + 1) * 2, none⟩) = some ad ∧ Hid (∀ j v, (xs.drop ((k + 1) * 2))[j]? = some v → w.drew.cell? (ad.add j) = some v) := by
    by_cases h1 : c = k + 1
    · refine ⟨⟨g, 0, none⟩, by rw [if_pos h1], fun j v hj => ?_⟩
      have := (List.getElem?_eq_some_iff.1 hj).1
      rw [hxd] at this
      omega
    · refine ⟨⟨g, (k + 1) * 2, none⟩, by rw [if_neg h1], fun j v hj => ?_⟩
      rw [addr_add]
      show w.cell? _ = _
      rw [cell_of_row _ _ _ _ _ _ hh, ← hj, List.getElem?_drop, ← htk, List.getElem?_take, Array.getElem?_toList, if_pos]
      have := (List.getElem?_eq_some_iff.1 hj).1
      rw [hxd] at this
      omega
  have HM1 : Hid (∀ v ∈ xs.drop ((k + 1) * 2), v.oneCell' = true) := fun v hv => hx1 v (List.mem_of_mem_drop hv)
  have HCM := hide hcm
  have hb1 : (0 : Int) ≤ (k : Int) + 1 := by omega
  have hb3 : (k : Int) + 1 ≤ (n : Int) := by omega
  have hb4 : (k : Int) ≤ (k : Int) + 1 := by omega
  have hb5 : (n : Int) ≤ (c : Int) := by omega
  have hb6 : (k : Int) + 1 ≤ (c : Int) := by omega
  have hb7 : k ≤ c := by omega
  have hz2 : ¬ ((k : Int) = (k : Int) + 1) := by omega
  have hz3 : ((k : Int) == (k : Int) + 1) = false := by simpa using hz2
  have htn : ((k : Int) + 1).toNat = k + 1 := by omega
  have hkn : k + (n - (k + 1)) = n - 1 := by omega
  clear h hh hcs htk hcl hxl hxd hx1 hcm
  go_enter Tryz.func139, Tryz.ntmps139
  go_wp2_with fail
  go_region_law (refine step_appk rfl (.tmp 22) (.tmp 25) El_bk rfl g 0 k c (n - (k + 1)) (c - (k + 1)) ad (by simp [Act.eval, Act.put]) (by simp [Act.eval, Act.put]) cur.toList 111 (xs.drop ((k + 1) * 2)) HH.out HXD.out HMV.out HM1.out (by omega) (by rw [HXD.out, HCL.out]; omega) ?_; intro w6 HG6 hgr6 hs6; rw [hkn]; have HGR6 := hide hgr6; clear hgr6)
  have hcl : ∀ ty, (Builtin.clear_ #[81] ty #[.slice (some ⟨g, (n - 1) * 2, none⟩) 1 (c - (n - 1))]).run Tryz.prog w6 = .ok (.tuple #[]) (w6.setRow g (splice (splice cur.toList (0 + k * 2) (xs.drop ((k + 1) * 2))).toArray.toList ((n - 1) * 2) (Builtin.zeroCells (Value.agg #[.int .i64 0, .slice none 0 0]).cells 1).toList).toArray) := fun ty =>
    run_cleark El_bk Tryz.zeroValue111 rfl (by intro v hv; simp [Value.cells] at hv; rcases hv with rfl | rfl <;> simp [Value.oneCell']) ty g ((n - 1) * 2) 1 (c - (n - 1)) (by omega) _ _ HG6.out (by rw [List.size_toArray, splice_len, HCL.out] <;> (try rw [HXD.out, HCL.out]) <;> omega)
  obtain ⟨w7, hw7⟩ : ∃ w7, w6.setRow g (splice (splice cur.toList (0 + k * 2) (xs.drop ((k + 1) * 2))).toArray.toList ((n - 1) * 2) (Builtin.zeroCells (Value.agg #[.int .i64 0, .slice none 0 0]).cells 1).toList).toArray = w7 := ⟨_, rfl⟩
  rw [hw7] at hcl
  have HW7 := hide hw7
  clear hw7
  have hb8 : ¬ (c = n - 1) := by omega
  have hb9 : n - (n - 1) = 1 := by omega
  have hb10 : (((n - 1 : Nat) : Int)) ≤ (n : Int) := by omega
  have hb11 : n - 1 ≤ n := by omega
  go_wp2_with fail
  go_ret
  have hz : (Builtin.zeroCells (Value.agg #[.int .i64 0, .slice none 0 0]).cells 1).toList.length = 2 := by rw [Array.length_toList, size_zeroCells]; rfl
  refine ⟨_, rfl, rfl, ⟨?_, .inr ⟨g, c, _, rfl, Nat.zero_le _, by rw [← HW7.out]; exact setRow_heap w6 g _ _ _ _ HG6.out, by omega, HCM.out, ?_, ?_⟩⟩, grown_trans (grown_trans (grown_drew (grown_refl _ _)) HGR6.out) (by rw [← HW7.out]; exact grown_setRow _ _ _)⟩
  · rw [delAt_len _ _ _ (by rw [HXL.out]; omega), HXL.out]
    omega
  · rw [List.size_toArray, splice_len]
    · show (splice cur.toList (0 + k * 2) (xs.drop ((k + 1) * 2))).length = _
      rw [splice_len, HCL.out]
      rw [HXD.out, HCL.out]
      omega
    · rw [hz]
      show _ ≤ (splice cur.toList (0 + k * 2) (xs.drop ((k + 1) * 2))).length
      rw [splice_len, HCL.out]
      · omega
      · rw [HXD.out, HCL.out]
        omega
  · have := del_row cur.toList xs (Builtin.zeroCells (Value.agg #[.int .i64 0, .slice none 0 0]).cells 1).toList (k * 2) 2 (by rw [HXL.out]; exact HTK.out) (by rw [HXL.out]; omega) (by rw [HXL.out, HCL.out]; omega) hz
    rw [HXL.out] at this
    rw [← this, Nat.zero_add, show (n - 1) * 2 = n * 2 - 2 by omega, show (k + 1) * 2 = k * 2 + 2 by omega]
end Go.Proofs.YtdaklffbfadghaaGreat

namespace Go.Proofs.YtdaklffbfadghaaGreat
open Go.RowKit HP
set_option linter.unusedVariables false
/-- the first of a, a + step, .. up to lim at which p holds -/
def scanF (p : Int → Bool) (lim step : Int) : Nat → Int → Option Int
  | 0, _ => none
  | f + 1, a => if lim < a then none else if p a then some a else scanF p lim step f (a + step)
def ffP (size : Int) (l : List PB) (n : Int) (a : Int) : Bool := freeB size l a (a + n) (-1)
def poolP (size : Int) (l : List PB) (piece align : Int) (a : Int) : Bool := decide (a % align = 0) && freeB size l a (a + piece) (-1)
def upTo (n m : Int) : Int := (n + m - 1) / m * m
def roomM (m : HM) (n align : Int) : Option Int :=
  if m.kind = 0 then scanF (ffP m.size m.live n) (m.size - n) align 5000 0
  else if m.kind = 3 then (if n ≤ m.piece then scanF (poolP m.size m.live m.piece align) (m.size - m.piece) m.piece 5000 0 else none)
  else if upTo m.top align + n ≤ m.size then some (upTo m.top align) else none
def RoomPost (r : Option Int) (w : World) (e : Ending) (w' : World) : Prop :=
  ∃ (a : Int) (ok : Bool), e = .returned (.tuple #[.int .i64 a, .bool ok]) ∧ ok = r.isSome ∧ (∀ x, r = some x → a = x) ∧ Q w w'
/-- the heap's numbers are within bounds -/
structure Ok (h : Hp) : Prop where
  kind : 0 ≤ h.kind ∧ h.kind ≤ 3
  near : Near h.bks
  fit : Fit h.size (h.bks.map (·.pb))
  top : 0 ≤ h.top ∧ h.top ≤ 5000
  piece : h.kind = 3 → 1 ≤ h.piece ∧ h.piece ≤ h.size
  peak : 0 ≤ h.peak ∧ h.peak ≤ 1000000
  calls : 0 ≤ h.calls ∧ h.calls ≤ 1000000000
  failIn : 0 ≤ h.failIn ∧ h.failIn ≤ 1000
theorem HpR.k4 {w : World} {h : Hp} (H : HpR w h) : w.cell? ⟨h.blk, 4, none⟩ = some (.int .i64 h.size) := by rw [H.cell 4]; rfl
set_option maxHeartbeats 2000000 in
theorem ff_room (h : Hp) (n align : Int) (w : World) (H : HpR w h) (O : Ok h) (hn0 : 1 ≤ n) (hn1 : n ≤ 4096) (ha0 : 1 ≤ align) (ha1 : align ≤ 16) :
    Calls Tryz.prog 160 #[.agg #[h.bptr], .int .i64 n, .int .i64 align] w (RoomPost (scanF (ffP h.size (h.bks.map (·.pb)) n) (h.size - n) align 5000 0) w) := by
  have hb := blk_lt H.cells
  have k4 := H.k4
  obtain ⟨hs0, hs1⟩ := O.fit.sz
  have HF : Hid (∀ W, Q w W → ∀ a b, Calls Tryz.prog 163 #[.pointer (some ⟨h.blk, 4, none⟩), .int .i64 a, .int .i64 b, .int .i64 (-1)] W fun e w' => e = .returned (.bool (freeB h.size (h.bks.map (·.pb)) a b (-1))) ∧ Q W w') := fun W hq a b => free_any h a b (-1) W (H.q hq) O.near
  unfold Hp.bptr
  obtain ⟨sz, hsz⟩ : ∃ sz, sz = h.size := ⟨_, rfl⟩
  obtain ⟨g, hg⟩ : ∃ g, g = h.blk := ⟨_, rfl⟩
  obtain ⟨l, hl⟩ : ∃ l, l = h.bks.map (·.pb) := ⟨_, rfl⟩
  rw [← hsz] at k4 hs0 hs1 HF ⊢
  rw [← hg] at k4 hb HF ⊢
  rw [← hl] at HF ⊢
  clear hsz hg hl H O
  obtain ⟨R, hR⟩ : ∃ R, R = scanF (ffP sz l n) (sz - n) align 5000 0 := ⟨_, rfl⟩
  rw [← hR]
  obtain ⟨w1, hw1⟩ : ∃ w1, w.alloc (.cells #[.pointer (some ⟨g, 4, none⟩)] 97) = w1 := ⟨_, rfl⟩
  have hq1 : Q w w1 := by rw [← hw1]; exact (Q.refl w).alloc _
  have c0 : w1.cell? ⟨w.heap.size, 0, none⟩ = some (.pointer (some ⟨g, 4, none⟩)) := by rw [← hw1, cell_new]; rfl
  have hs2 : w.heap.size < w1.heap.size := by rw [← hw1]; simp
  have k4' := (hq1.facts.1 g 4 hb).trans k4
  have hgw : g < w1.heap.size := by omega
  have HW := hide hw1
  have HR := hide hR
  clear hw1 hR k4
  go_enter Tryz.func160, Tryz.ntmps160
  go_wp2_with fail
  rw [HW.out]
  go_loopw [8] (fun va wr => ∃ (f : Nat) (a : Int), va = .int .i64 a ∧ 0 ≤ a ∧ a ≤ 5000 ∧ sz - n - a < f ∧ Hid (R = scanF (ffP sz l n) (sz - n) align f a) ∧ Q w1 wr) (fun va _ => (6000 - intOf va).toNat)
  case atStart => exact ⟨5000, 0, rfl, by omega, by omega, by omega, HR.out, Q.refl _⟩
  case round =>
    obtain ⟨f, a, rfl, hlo, hhi, hfu, HS, hq⟩ := hrel
    have hsz := hq.size
    have kr := (hq.facts.1 g 4 hgw).trans k4'
    have cr := (hq.facts.1 _ 0 hs2).trans c0
    by_cases hlt : a + n ≤ sz
    · obtain ⟨f', rfl⟩ : ∃ f', f = f' + 1 := ⟨f - 1, by omega⟩
      have hs := HS.out
      rw [scanF, if_neg (by omega)] at hs
      have HC := hide (HF.out wr (hq1.trans hq) a (a + n))
      obtain ⟨b, hbb⟩ : ∃ b, b = freeB sz l a (a + n) (-1) := ⟨_, rfl⟩
      rw [show ffP sz l n a = freeB sz l a (a + n) (-1) from rfl, ← hbb] at hs
      rw [← hbb] at HC
      clear hbb
      cases b
      · have HS2 : Hid (R = scanF (ffP sz l n) (sz - n) align f' (a + align)) := hide (by simpa using hs)
        clear hs HS
        go_wp2_with (go_at_call 163; refine HC.out.mono ?_; rintro e w3 ⟨rfl, hq3⟩)
        go_roundw
        case rel => exact ⟨f', a + align, rfl, by omega, by omega, by omega, HS2, hq.trans hq3⟩
        case measure => simp [intOf] <;> omega
      · have HS2 : Hid (R = some a) := hide (by simpa using hs)
        clear hs HS
        go_wp2_with (go_at_call 163; refine HC.out.mono ?_; rintro e w3 ⟨rfl, hq3⟩)
        go_ret2
        exact ⟨a, true, rfl, by rw [HS2.out]; rfl, fun x hx => by rw [HS2.out] at hx; exact Option.some.inj hx, (hq1.trans hq).trans hq3⟩
    · have hs := HS.out
      have hR : R = none := by
        rw [hs]
        cases f with
        | zero => rfl
        | succ f => rw [scanF, if_pos (by omega)]
      have HR2 := hide hR
      clear hR hs
      go_wp2_with fail
      go_ret2
      exact ⟨0, false, rfl, by rw [HR2.out]; rfl, fun x hx => (by rw [HR2.out] at hx; cases hx), hq1.trans hq⟩
set_option maxHeartbeats 1000000 in
theorem bump_room (h : Hp) (n align : Int) (w : World) (H : HpR w h) (O : Ok h) (hk : h.kind = 1 ∨ h.kind = 2) (hn0 : 1 ≤ n) (hn1 : n ≤ 4096) (ha0 : 1 ≤ align) (ha1 : align ≤ 16) :
    Calls Tryz.prog 170 #[.pointer (some ⟨h.wb, 0, none⟩), .int .i64 n, .int .i64 align] w (RoomPost (if upTo h.top align + n ≤ h.size then some (upTo h.top align) else none) w) := by
  have hb := blk_lt H.cells
  have k4 := H.k4
  obtain ⟨hs0, hs1⟩ := O.fit.sz
  obtain ⟨ht0, ht1⟩ := O.top
  have hrow : ∃ T, w.heap[h.wb]? = some (.cells h.wrow T (0, 0)) := by
    rcases hk with hk | hk
    · exact ⟨_, H.w1 hk⟩
    · exact ⟨_, H.w2 hk⟩
  obtain ⟨T, hrow⟩ := hrow
  have hwl := blk_lt hrow
  have c0 : w.cell? ⟨h.wb, 0, none⟩ = some (.pointer (some ⟨h.blk, 4, none⟩)) := by rw [cell_of_row _ _ _ _ _ _ hrow]; rfl
  have c1 : w.cell? ⟨h.wb, 1, none⟩ = some (.int .i64 h.top) := by rw [cell_of_row _ _ _ _ _ _ hrow]; rfl
  obtain ⟨t, ht⟩ : ∃ t, t = h.top := ⟨_, rfl⟩
  obtain ⟨sz, hsz⟩ : ∃ sz, sz = h.size := ⟨_, rfl⟩
  obtain ⟨g, hg⟩ : ∃ g, g = h.blk := ⟨_, rfl⟩
  obtain ⟨q, hq⟩ : ∃ q, q = h.wb := ⟨_, rfl⟩
  rw [← ht] at c1 ht0 ht1 ⊢
  rw [← hsz] at k4 hs0 hs1 ⊢
  rw [← hg] at k4 hb c0
  rw [← hq] at c0 c1 hwl ⊢
  clear ht hsz hg hq H O hrow hk
  have HU : Hid (∀ W, Calls Tryz.prog 173 #[.int .i64 t, .int .i64 align] W fun e w' => e = .returned (.int .i64 (upTo t align)) ∧ W = w') := fun W => up_any t align W ht0 (by omega) ha0 ha1
  have hu0 : 0 ≤ upTo t align := Int.mul_nonneg (Int.ediv_nonneg (by omega) (by omega)) (by omega)
  have hu1 : upTo t align ≤ 6000 := by
    have : (t + align - 1) / align * align ≤ t + align - 1 := Int.ediv_mul_le _ (by omega)
    unfold upTo
    omega
  obtain ⟨u, hu⟩ : ∃ u, u = upTo t align := ⟨_, rfl⟩
  rw [← hu] at HU hu0 hu1 ⊢
  clear hu
  by_cases hfit : u + n ≤ sz
  · have hd : decide (u + n ≤ sz) = true := by simpa using hfit
    rw [if_pos hfit]
    go_enter Tryz.func170, Tryz.ntmps170
    go_wp2_with (go_at_call 173; refine (HU.out _).mono ?_; rintro e w1 ⟨rfl, rfl⟩)
    have hxc := ext_cell
    refine wp_region_ext (by kernel_rfl) (by kernel_rfl) ?_
    repeat (go_big_quiet_step ((fail)))
    clear hxc
    refine wpQuiet_nil ?_
    intro w2 hww2
    have hqw2 := q_of_ext hww2
    clear hww2
    obtain ⟨hcw2, hfw2, hzw2⟩ := hqw2.facts
    try simp at hzw2
    try have hs0w2 : w.heap.size < w2.heap.size := by omega
    try have hs1w2 : w.heap.size + 1 < w2.heap.size := by omega
    go_wp2_with fail
    go_ret2
    exact ⟨u, true, rfl, rfl, fun x hx => Option.some.inj hx, hqw2⟩
  · have hd : decide (u + n ≤ sz) = false := by simpa using hfit
    rw [if_neg hfit]
    go_enter Tryz.func170, Tryz.ntmps170
    go_wp2_with (go_at_call 173; refine (HU.out _).mono ?_; rintro e w1 ⟨rfl, rfl⟩)
    have hxc := ext_cell
    refine wp_region_ext (by kernel_rfl) (by kernel_rfl) ?_
    repeat (go_big_quiet_step ((fail)))
    clear hxc
    refine wpQuiet_nil ?_
    intro w2 hww2
    have hqw2 := q_of_ext hww2
    clear hww2
    obtain ⟨hcw2, hfw2, hzw2⟩ := hqw2.facts
    try simp at hzw2
    try have hs0w2 : w.heap.size < w2.heap.size := by omega
    try have hs1w2 : w.heap.size + 1 < w2.heap.size := by omega
    go_wp2_with fail
    go_ret2
    exact ⟨u, false, rfl, rfl, fun x hx => (by cases hx), hqw2⟩
set_option maxHeartbeats 2000000 in
theorem pool_room (h : Hp) (n align : Int) (w : World) (H : HpR w h) (O : Ok h) (hk : h.kind = 3) (hn0 : 1 ≤ n) (hn1 : n ≤ 4096) (ha0 : 1 ≤ align) (ha1 : align ≤ 16) :
    Calls Tryz.prog 181 #[.agg #[h.bptr, .int .i64 h.piece], .int .i64 n, .int .i64 align] w (RoomPost (if n ≤ h.piece then scanF (poolP h.size (h.bks.map (·.pb)) h.piece align) (h.size - h.piece) h.piece 5000 0 else none) w) := by
  have hb := blk_lt H.cells
  have k4 := H.k4
  obtain ⟨hs0, hs1⟩ := O.fit.sz
  obtain ⟨hp0, hp1⟩ := O.piece hk
  have HF : Hid (∀ W, Q w W → ∀ a b, Calls Tryz.prog 163 #[.pointer (some ⟨h.blk, 4, none⟩), .int .i64 a, .int .i64 b, .int .i64 (-1)] W fun e w' => e = .returned (.bool (freeB h.size (h.bks.map (·.pb)) a b (-1))) ∧ Q W w') := fun W hq a b => free_any h a b (-1) W (H.q hq) O.near
  unfold Hp.bptr
  obtain ⟨sz, hsz⟩ : ∃ sz, sz = h.size := ⟨_, rfl⟩
  obtain ⟨pc, hpc⟩ : ∃ pc, pc = h.piece := ⟨_, rfl⟩
  obtain ⟨g, hg⟩ : ∃ g, g = h.blk := ⟨_, rfl⟩
  obtain ⟨l, hl⟩ : ∃ l, l = h.bks.map (·.pb) := ⟨_, rfl⟩
  rw [← hsz] at k4 hs0 hs1 hp1 HF ⊢
  rw [← hpc] at hp0 hp1 ⊢
  rw [← hg] at k4 hb HF ⊢
  rw [← hl] at HF ⊢
  clear hsz hpc hg hl H O hk
  obtain ⟨w1, hw1⟩ : ∃ w1, w.alloc (.cells #[.pointer (some ⟨g, 4, none⟩), .int .i64 pc] 105) = w1 := ⟨_, rfl⟩
  have hq1 : Q w w1 := by rw [← hw1]; exact (Q.refl w).alloc _
  have c0 : w1.cell? ⟨w.heap.size, 0, none⟩ = some (.pointer (some ⟨g, 4, none⟩)) := by rw [← hw1, cell_new]; rfl
  have c1 : w1.cell? ⟨w.heap.size, 1, none⟩ = some (.int .i64 pc) := by rw [← hw1, cell_new]; rfl
  have hs2 : w.heap.size < w1.heap.size := by rw [← hw1]; simp
  have k4' := (hq1.facts.1 g 4 hb).trans k4
  have hgw : g < w1.heap.size := by omega
  have hwl := hs2
  have HW := hide hw1
  clear hw1 k4
  by_cases hnp : n ≤ pc
  · have hnd : decide (n ≤ pc) = true := by simpa using hnp
    rw [if_pos hnp]
    obtain ⟨R, hR⟩ : ∃ R, R = scanF (poolP sz l pc align) (sz - pc) pc 5000 0 := ⟨_, rfl⟩
    rw [← hR]
    have HR := hide hR
    clear hR
    go_enter Tryz.func181, Tryz.ntmps181
    go_wp2_with fail
    rw [HW.out]
    go_loopw [8] (fun va wr => ∃ (f : Nat) (a : Int), va = .int .i64 a ∧ 0 ≤ a ∧ a ≤ 9000 ∧ sz - pc - a < f ∧ Hid (R = scanF (poolP sz l pc align) (sz - pc) pc f a) ∧ Q w1 wr) (fun va _ => (20000 - intOf va).toNat)
    case atStart => exact ⟨5000, 0, rfl, by omega, by omega, by omega, HR.out, Q.refl _⟩
    case round =>
      obtain ⟨f, a, rfl, hlo, hhi, hfu, HS, hq⟩ := hrel
      have hsz := hq.size
      have kr := (hq.facts.1 g 4 hgw).trans k4'
      have cr0 := (hq.facts.1 _ 0 hs2).trans c0
      have cr1 := (hq.facts.1 _ 1 hs2).trans c1
      have hgr : g < wr.heap.size := by omega
      have hwr : w.heap.size < wr.heap.size := by omega
      by_cases hlt : a + pc ≤ sz
      · have hld : decide (a + pc ≤ sz) = true := by simpa using hlt
        obtain ⟨f', rfl⟩ : ∃ f', f = f' + 1 := ⟨f - 1, by omega⟩
        have hs := HS.out
        rw [scanF, if_neg (by omega)] at hs
        by_cases hal : a % align = 0
        · have ha2 : (a % align == 0) = true := by simpa using hal
          obtain ⟨b, hbb⟩ : ∃ b, b = freeB sz l a (a + pc) (-1) := ⟨_, rfl⟩
          rw [show poolP sz l pc align a = freeB sz l a (a + pc) (-1) by unfold poolP; simp [hal], ← hbb] at hs
          have HC : Hid (∀ W, Q w W → Calls Tryz.prog 163 #[.pointer (some ⟨g, 4, none⟩), .int .i64 a, .int .i64 (a + pc), .int .i64 (-1)] W fun e w' => e = .returned (.bool b) ∧ Q W w') := fun W hW => by rw [hbb]; exact HF.out W hW a (a + pc)
          clear hbb hal
          cases b
          · have HS2 : Hid (R = scanF (poolP sz l pc align) (sz - pc) pc f' (a + pc)) := hide (by simpa using hs)
            clear hs HS
            go_wp2_with fail
            have hxc := ext_cell
            refine wp_region_ext (by kernel_rfl) (by kernel_rfl) ?_
            repeat (go_big_quiet_step ((fail)))
            clear hxc
            refine wpQuiet_nil ?_
            intro w2 hww2
            have hqw2 := q_of_ext hww2
            clear hww2
            obtain ⟨hcw2, hfw2, hzw2⟩ := hqw2.facts
            try simp at hzw2
            try have hs0w2 : w.heap.size < w2.heap.size := by omega
            try have hs1w2 : w.heap.size + 1 < w2.heap.size := by omega
            have kr2 := (hqw2.facts.1 g 4 hgr).trans kr
            have cr2 := (hqw2.facts.1 _ 0 hwr).trans cr0
            have cr3 := (hqw2.facts.1 _ 1 hwr).trans cr1
            go_wp2_with (go_at_call 163; refine (HC.out _ ((hq1.trans hq).trans hqw2)).mono ?_; rintro e w3 ⟨rfl, hq3⟩; have cr4 := (hq3.facts.1 _ 1 (by have := hqw2.size; omega)).trans cr3)
            go_roundw
            case rel => exact ⟨f', a + pc, rfl, by omega, by omega, by omega, HS2, (hq.trans hqw2).trans hq3⟩
            case measure => simp [intOf] <;> omega
          · have HS2 : Hid (R = some a) := hide (by simpa using hs)
            clear hs HS
            go_wp2_with fail
            have hxc := ext_cell
            refine wp_region_ext (by kernel_rfl) (by kernel_rfl) ?_
            repeat (go_big_quiet_step ((fail)))
            clear hxc
            refine wpQuiet_nil ?_
            intro w2 hww2
            have hqw2 := q_of_ext hww2
            clear hww2
            obtain ⟨hcw2, hfw2, hzw2⟩ := hqw2.facts
            try simp at hzw2
            try have hs0w2 : w.heap.size < w2.heap.size := by omega
            try have hs1w2 : w.heap.size + 1 < w2.heap.size := by omega
            have kr2 := (hqw2.facts.1 g 4 hgr).trans kr
            have cr2 := (hqw2.facts.1 _ 0 hwr).trans cr0
            have cr3 := (hqw2.facts.1 _ 1 hwr).trans cr1
            go_wp2_with (go_at_call 163; refine (HC.out _ ((hq1.trans hq).trans hqw2)).mono ?_; rintro e w3 ⟨rfl, hq3⟩)
            go_ret2
            exact ⟨a, true, rfl, by rw [HS2.out]; rfl, fun x hx => (by rw [HS2.out] at hx; exact Option.some.inj hx), ((hq1.trans hq).trans hqw2).trans hq3⟩
        · have ha2 : (a % align == 0) = false := by simpa using hal
          rw [show poolP sz l pc align a = false by unfold poolP; simp [hal]] at hs
          have HS2 : Hid (R = scanF (poolP sz l pc align) (sz - pc) pc f' (a + pc)) := hide (by simpa using hs)
          clear hs HS
          go_wp2_with fail
          have hxc := ext_cell
          refine wp_region_ext (by kernel_rfl) (by kernel_rfl) ?_
          repeat (go_big_quiet_step ((fail)))
          clear hxc
          refine wpQuiet_nil ?_
          intro w2 hww2
          have hqw2 := q_of_ext hww2
          clear hww2
          obtain ⟨hcw2, hfw2, hzw2⟩ := hqw2.facts
          try simp at hzw2
          try have hs0w2 : w.heap.size < w2.heap.size := by omega
          try have hs1w2 : w.heap.size + 1 < w2.heap.size := by omega
          have kr2 := (hqw2.facts.1 g 4 hgr).trans kr
          have cr2 := (hqw2.facts.1 _ 0 hwr).trans cr0
          have cr3 := (hqw2.facts.1 _ 1 hwr).trans cr1
          go_wp2_with fail
          go_roundw
          case rel => exact ⟨f', a + pc, rfl, by omega, by omega, by omega, HS2, hq.trans hqw2⟩
          case measure => simp [intOf] <;> omega
      · have hld : decide (a + pc ≤ sz) = false := by simpa using hlt
        have hR : R = none := by
          rw [HS.out]
          cases f with
          | zero => rfl
          | succ f => rw [scanF, if_pos (by omega)]
        have HR2 := hide hR
        clear hR
        go_wp2_with fail
        have hxc := ext_cell
        refine wp_region_ext (by kernel_rfl) (by kernel_rfl) ?_
        repeat (go_big_quiet_step ((fail)))
        clear hxc
        refine wpQuiet_nil ?_
        intro w2 hww2
        have hqw2 := q_of_ext hww2
        clear hww2
        obtain ⟨hcw2, hfw2, hzw2⟩ := hqw2.facts
        try simp at hzw2
        try have hs0w2 : w.heap.size < w2.heap.size := by omega
        try have hs1w2 : w.heap.size + 1 < w2.heap.size := by omega
        go_wp2_with fail
        go_ret2
        exact ⟨0, false, rfl, by rw [HR2.out]; rfl, fun x hx => (by rw [HR2.out] at hx; cases hx), (hq1.trans hq).trans hqw2⟩
  · have hnd : decide (n ≤ pc) = false := by simpa using hnp
    rw [if_neg hnp]
    go_enter Tryz.func181, Tryz.ntmps181
    go_wp2_with fail
    rw [HW.out]
    go_loopw [8] (fun va wr => va = .int .i64 0 ∧ Q w1 wr) (fun va _ => 0)
    case atStart => exact ⟨rfl, Q.refl _⟩
    case round =>
      obtain ⟨rfl, hq⟩ := hrel
      have hsz := hq.size
      have kr := (hq.facts.1 g 4 hgw).trans k4'
      have cr0 := (hq.facts.1 _ 0 hs2).trans c0
      have cr1 := (hq.facts.1 _ 1 hs2).trans c1
      have hgr : g < wr.heap.size := by omega
      have hwr : w.heap.size < wr.heap.size := by omega
      go_wp2_with fail
      have hxc := ext_cell
      refine wp_region_ext (by kernel_rfl) (by kernel_rfl) ?_
      repeat (go_big_quiet_step ((fail)))
      clear hxc
      refine wpQuiet_nil ?_
      intro w2 hww2
      have hqw2 := q_of_ext hww2
      clear hww2
      obtain ⟨hcw2, hfw2, hzw2⟩ := hqw2.facts
      try simp at hzw2
      try have hs0w2 : w.heap.size < w2.heap.size := by omega
      try have hs1w2 : w.heap.size + 1 < w2.heap.size := by omega
      go_wp2_with fail
      go_ret2
      exact ⟨0, false, rfl, rfl, fun x hx => (by cases hx), (hq1.trans hq).trans hqw2⟩
end Go.Proofs.YtdaklffbfadghaaGreat
