/- What is looked up among the live blocks: closures, slices.IndexFunc and slices.ContainsFunc at them, and small functions. Conditions: the slices read as lists. -/
import Derived.Test.YtegpkcbmgjoicaaHpA
namespace Go.Proofs.Ytegpkcbmgjoicaa
open Go.RowKit HP
set_option linter.unusedVariables false
theorem cell_new (w : World) (C : Array Value) (t : TypeId) (j : Nat) : (w.alloc (.cells C t)).cell? ⟨w.heap.size, j, none⟩ = C[j]? := cell_of_row _ _ _ C t (0, 0) (heap_alloc_new w _)
theorem cell_old (w : World) (o : Obj) {b : Nat} (j : Nat) (h : b < w.heap.size) : (w.alloc o).cell? ⟨b, j, none⟩ = w.cell? ⟨b, j, none⟩ := ((Q.refl w).alloc o).facts.1 b j h
theorem Sl.bk {w : World} {A : Option Addr} {n c : Nat} {xs : List Bk} (h : Sl 2 encBk w A n c xs) (i : Nat) (hi : i < n) :
    ∃ b o x, A = some ⟨b, o, none⟩ ∧ b < w.heap.size ∧ xs[i]? = some x ∧ w.cell? ⟨b, o + i * 2, none⟩ = some (.int .i64 x.pb.1) ∧ w.cell? ⟨b, o + i * 2 + 1, none⟩ = some (.slice (some ⟨x.row, 0, none⟩) x.pb.2.length x.cap) := by
  obtain ⟨b, o, x, e, hb, hx, hc⟩ := h.at_ (fun _ => rfl) (by decide) i hi
  exact ⟨b, o, x, e, hb, hx, by simpa using hc 0 _ rfl, hc 1 _ rfl⟩
/-- the first of a list for which a test holds -/
def IdxPost {α : Type} (p : α → Bool) (xs : List α) (w : World) (e : Ending) (w' : World) : Prop :=
  ∃ z : Int, e = .returned (.int .i64 z) ∧ Q w w' ∧ ((z = -1 ∧ xs.any p = false) ∨ ∃ (k : Nat) (x : α), z = (k : Int) ∧ xs[k]? = some x ∧ p x = true ∧ ∀ (j : Nat) (y : α), j < k → xs[j]? = some y → p y = false)
theorem IdxPost.has {α : Type} {p : α → Bool} {xs : List α} {z : Int} (h : (z = -1 ∧ xs.any p = false) ∨ ∃ (k : Nat) (x : α), z = (k : Int) ∧ xs[k]? = some x ∧ p x = true ∧ ∀ (j : Nat) (y : α), j < k → xs[j]? = some y → p y = false) : decide (0 ≤ z) = xs.any p := by
  rcases h with ⟨rfl, h⟩ | ⟨k, x, rfl, hx, hp, _⟩
  · rw [h]; rfl
  · rw [List.any_eq_true.2 ⟨x, List.mem_of_getElem? hx, hp⟩]; simp
/-- where a live block ends -/
theorem end_any (x : Int) (A : Option Addr) (n c : Nat) (w : World) (hx0 : 0 ≤ x) (hx1 : x ≤ 100000) (hn : n ≤ 100000) :
    Calls Try.prog 49 #[.agg #[.int .i64 x, .slice A n c]] w fun e w' => e = .returned (.int .i64 (x + (n : Int))) ∧ Q w w' := by
  have hni : (n : Int) ≤ 100000 := by omega
  go_enter Try.func49, Try.ntmps49
  go_wp2_with fail
  go_ret
  exact ⟨rfl, (Q.refl w).alloc _⟩
theorem isSize_any (n : Int) (w : World) : Calls Try.prog 25 #[.int .i64 n] w fun e w' => e = .returned (.bool (decide (1 ≤ n) && decide (n ≤ 4096))) ∧ w = w' := by
  cases h1 : decide (1 ≤ n)
  · go_enter Try.func25, Try.ntmps25
    go_wp2_with fail
    go_ret
    exact ⟨rfl, rfl⟩
  · cases h2 : decide (n ≤ 4096)
    · go_enter Try.func25, Try.ntmps25
      go_wp2_with fail
      go_ret
      exact ⟨rfl, rfl⟩
    · go_enter Try.func25, Try.ntmps25
      go_wp2_with fail
      go_ret
      exact ⟨rfl, rfl⟩
theorem up_any (n m : Int) (w : World) (hn0 : 0 ≤ n) (hn1 : n ≤ 100000) (hm0 : 1 ≤ m) (hm1 : m ≤ 16) : Calls Try.prog 108 #[.int .i64 n, .int .i64 m] w fun e w' => e = .returned (.int .i64 ((n + m - 1) / m * m)) ∧ w = w' := by
  have h0 : 0 ≤ (n + m - 1) / m := Int.ediv_nonneg (by omega) (by omega)
  have h1 : (n + m - 1) / m * m ≤ n + m - 1 := Int.ediv_mul_le _ (by omega)
  have h2 : 0 ≤ (n + m - 1) / m * m := Int.mul_nonneg h0 (by omega)
  have hm : m ≠ 0 := by omega
  go_enter Try.func108, Try.ntmps108
  go_wp2_with fail
  go_ret
  exact ⟨rfl, rfl⟩

/-- a block is over the bytes from 'a' up to below 'b', and is not the one that is left out -/
theorem freeC (x : PB) (A : Option Addr) (n c g1 g2 g3 : Nat) (a b but : Int) (w : World) (hn : x.2.length = n) (hx0 : 0 ≤ x.1) (hx1 : x.1 ≤ 100000) (hn1 : n ≤ 100000) (k1 : w.cell? ⟨g1, 0, none⟩ = some (.int .i64 but)) (k2 : w.cell? ⟨g2, 0, none⟩ = some (.int .i64 b)) (k3 : w.cell? ⟨g3, 0, none⟩ = some (.int .i64 a))
    (hg1 : g1 < w.heap.size) (hg2 : g2 < w.heap.size) (hg3 : g3 < w.heap.size) :
    Calls Try.prog 100 #[.agg #[.int .i64 x.1, .slice A n c], .pointer (some ⟨g1, 0, none⟩), .pointer (some ⟨g2, 0, none⟩), .pointer (some ⟨g3, 0, none⟩)] w fun e w' => e = .returned (.bool (clash a b but x)) ∧ Q w w' := by
  obtain ⟨x, bs⟩ := x
  dsimp only at hn hx0 hx1 ⊢
  have hc : clash a b but (x, bs) = (decide (x ≠ but) && (decide (x < b) && decide (a < x + (n : Int)))) := by unfold clash pend; rw [← hn]
  rw [hc]
  clear hc hn
  obtain ⟨y, hy⟩ : ∃ y, y = x + (n : Int) := ⟨_, rfl⟩
  have HE := fun W => hide (end_any x A n c W hx0 hx1 hn1)
  rw [← hy] at HE ⊢
  clear hy
  by_cases h1 : x = but
  · subst h1
    go_enter Try.func100, Try.ntmps100
    go_wp2_with fail
    have hxc := ext_cell
    refine wp_region_ext (by kernel_rfl) (by kernel_rfl) ?_
    repeat (go_big_quiet_step ((fail)))
    clear hxc
    refine wpQuiet_nil ?_
    intro w1 hww1
    have hqw1 := q_of_ext hww1
    clear hww1
    obtain ⟨hcw1, hfw1, hzw1⟩ := hqw1.facts
    try simp at hzw1
    try have hs0w1 : w.heap.size < w1.heap.size := by omega
    try have hs1w1 : w.heap.size + 1 < w1.heap.size := by omega
    go_wp2_with fail
    go_ret
    exact ⟨by simp, ((Q.refl w).alloc _).trans hqw1⟩
  · have h2 : (x == but) = false := by simpa using h1
    have h3 : (x != but) = true := by simpa using h1
    cases h4 : decide (x < b)
    · go_enter Try.func100, Try.ntmps100
      go_wp2_with fail
      have hxc := ext_cell
      refine wp_region_ext (by kernel_rfl) (by kernel_rfl) ?_
      repeat (go_big_quiet_step ((fail)))
      clear hxc
      refine wpQuiet_nil ?_
      intro w1 hww1
      have hqw1 := q_of_ext hww1
      clear hww1
      obtain ⟨hcw1, hfw1, hzw1⟩ := hqw1.facts
      try simp at hzw1
      try have hs0w1 : w.heap.size < w1.heap.size := by omega
      try have hs1w1 : w.heap.size + 1 < w1.heap.size := by omega
      go_wp2_with fail
      go_ret
      exact ⟨by simp [h1], ((Q.refl w).alloc _).trans hqw1⟩
    · go_enter Try.func100, Try.ntmps100
      go_wp2_with fail
      have hxc := ext_cell
      refine wp_region_ext (by kernel_rfl) (by kernel_rfl) ?_
      repeat (go_big_quiet_step (((go_at_call 49; exact ext_call ((HE _).out)))))
      clear hxc
      refine wpQuiet_nil ?_
      intro w1 hww1
      have hqw1 := q_of_ext hww1
      clear hww1
      obtain ⟨hcw1, hfw1, hzw1⟩ := hqw1.facts
      try simp at hzw1
      try have hs0w1 : w.heap.size < w1.heap.size := by omega
      try have hs1w1 : w.heap.size + 1 < w1.heap.size := by omega
      go_wp2_with fail
      go_ret
      exact ⟨by simp [h1], ((Q.refl w).alloc _).trans hqw1⟩
theorem holdC (x : PB) (A : Option Addr) (n c g1 : Nat) (at_ : Int) (w : World) (hn : x.2.length = n) (hx0 : 0 ≤ x.1) (hx1 : x.1 ≤ 100000) (hn1 : n ≤ 100000) (k1 : w.cell? ⟨g1, 0, none⟩ = some (.int .i64 at_)) (hg1 : g1 < w.heap.size) :
    Calls Try.prog 52 #[.agg #[.int .i64 x.1, .slice A n c], .pointer (some ⟨g1, 0, none⟩)] w fun e w' => e = .returned (.bool (decide (x.1 ≤ at_) && decide (at_ < pend x))) ∧ Q w w' := by
  obtain ⟨x, bs⟩ := x
  dsimp only at hn hx0 hx1 ⊢
  have hc : pend (x, bs) = x + (n : Int) := by unfold pend; rw [← hn]
  rw [hc]
  clear hc hn
  obtain ⟨y, hy⟩ : ∃ y, y = x + (n : Int) := ⟨_, rfl⟩
  have HE := fun W => hide (end_any x A n c W hx0 hx1 hn1)
  rw [← hy] at HE ⊢
  clear hy
  cases h4 : decide (x ≤ at_)
  · go_enter Try.func52, Try.ntmps52
    go_wp2_with fail
    have hxc := ext_cell
    refine wp_region_ext (by kernel_rfl) (by kernel_rfl) ?_
    repeat (go_big_quiet_step ((fail)))
    clear hxc
    refine wpQuiet_nil ?_
    intro w1 hww1
    have hqw1 := q_of_ext hww1
    clear hww1
    obtain ⟨hcw1, hfw1, hzw1⟩ := hqw1.facts
    try simp at hzw1
    try have hs0w1 : w.heap.size < w1.heap.size := by omega
    try have hs1w1 : w.heap.size + 1 < w1.heap.size := by omega
    go_wp2_with fail
    go_ret
    exact ⟨by simp, ((Q.refl w).alloc _).trans hqw1⟩
  · go_enter Try.func52, Try.ntmps52
    go_wp2_with fail
    have hxc := ext_cell
    refine wp_region_ext (by kernel_rfl) (by kernel_rfl) ?_
    repeat (go_big_quiet_step (((go_at_call 49; exact ext_call ((HE _).out)))))
    clear hxc
    refine wpQuiet_nil ?_
    intro w1 hww1
    have hqw1 := q_of_ext hww1
    clear hww1
    obtain ⟨hcw1, hfw1, hzw1⟩ := hqw1.facts
    try simp at hzw1
    try have hs0w1 : w.heap.size < w1.heap.size := by omega
    try have hs1w1 : w.heap.size + 1 < w1.heap.size := by omega
    go_wp2_with fail
    go_ret
    exact ⟨by simp, ((Q.refl w).alloc _).trans hqw1⟩
theorem goneC (x : Int) (A : Option Addr) (n c g1 : Nat) (at_ : Int) (w : World) (k1 : w.cell? ⟨g1, 0, none⟩ = some (.int .i64 at_)) (hg1 : g1 < w.heap.size) :
    Calls Try.prog 111 #[.agg #[.int .i64 x, .slice A n c], .pointer (some ⟨g1, 0, none⟩)] w fun e w' => e = .returned (.bool (decide (at_ < x))) ∧ Q w w' := by
  go_enter Try.func111, Try.ntmps111
  go_wp2_with fail
  go_ret
  exact ⟨rfl, (Q.refl w).alloc _⟩

set_option maxHeartbeats 1000000 in
theorem idx_free (p : Bk → Bool) (p1 p2 p3 : Value) (A : Option Addr) (n c : Nat) (xs : List Bk) (w : World) (h : Sl 2 encBk w A n c xs) (hn : n ≤ 100000)
    (hf : ∀ x, x ∈ xs → ∀ W, Q w W → Calls Try.prog 100 #[.agg #[.int .i64 x.pb.1, .slice (some ⟨x.row, 0, none⟩) x.pb.2.length x.cap], p1, p2, p3] W fun e w' => e = .returned (.bool (p x)) ∧ Q W w') :
    Calls Try.prog 51 #[.slice A n c, .func (.func 100) #[] #[p1, p2, p3]] w (IdxPost p xs w) := by
  have hl := h.len
  have H := hide h
  have HL := hide hl
  have HF := hide hf
  have hni : (n : Int) ≤ 100000 := by omega
  clear h hl hf
  go_enter Try.func51, Try.ntmps51
  go_wp2_with fail
  go_loopw [8] (fun vi wr => ∃ i : Nat, i ≤ n ∧ vi = .int .i64 i ∧ (∀ j x, j < i → xs[j]? = some x → p x = false) ∧ Q w wr) (fun vi _ => n - (intOf vi).toNat)
  case atStart => exact ⟨0, by omega, by go_num, fun j x hj => by omega, Q.refl _⟩
  case round =>
    obtain ⟨i, hi, rfl, hall, hq⟩ := hrel
    have HALL := hide hall
    clear hall
    have hsz := hq.size
    by_cases hlt : i < n
    · have hd0 : decide (i < n) = true := by simpa using hlt
      have hd1 : decide ((i : Int) < (n : Int)) = true := by simpa using hlt
      have hlti : (i : Int) < (n : Int) := by omega
      obtain ⟨b1, o1, ⟨⟨at_, bs⟩, row, cap⟩, rfl, hb1, g1, x1, x2⟩ := (H.out.up hq).bk i hlt
      dsimp only at x1 x2
      have hm := List.mem_of_getElem? g1
      have HC := hide (HF.out _ hm)
      have G1 := hide g1
      clear g1 hm
      obtain ⟨m, hm⟩ : ∃ m, m = bs.length := ⟨_, rfl⟩
      rw [← hm] at x2
      have HM := hide hm
      clear hm
      go_wp2_with fail
      refine (Calls.mono (by have := HC.out _ (by first | exact hq | exact hq.drew); rw [← HM.out] at this; exact this) ?_)
      rintro e w3 ⟨rfl, hq3⟩
      have hq2 : Q w w3 := by first | exact hq.trans hq3 | exact hq.drew.trans hq3
      cases hp : p ⟨(at_, bs), row, cap⟩
      · have HP := hide hp
        clear hp x1 x2
        go_wp2_with fail
        go_roundw
        case rel => exact ⟨i + 1, by omega, by go_num, fun j x hj hx => by
          by_cases e : j = i
          · subst e
            rw [G1.out] at hx
            cases hx
            exact HP.out
          · exact HALL.out j x (by omega) hx, hq2⟩
        case measure => simp [intOf] <;> omega
      · have HP := hide hp
        clear hp x1 x2
        go_wp2_with fail
        go_ret
        exact ⟨_, rfl, hq2, .inr ⟨i, _, rfl, G1.out, HP.out, HALL.out⟩⟩
    · have hd0 : decide (i < n) = false := by simpa using hlt
      have hd1 : decide ((i : Int) < (n : Int)) = false := by simpa using hlt
      have ha : xs.any p = false := by
        rw [List.any_eq_false]
        intro x hx
        obtain ⟨j, hj, rfl⟩ := List.getElem_of_mem hx
        have := HALL.out j xs[j] (by have := HL.out; omega) (List.getElem?_eq_getElem hj)
        simp [this]
      have HA := hide ha
      clear ha
      go_wp2_with fail
      go_ret
      exact ⟨_, rfl, hq, .inl ⟨rfl, HA.out⟩⟩

theorem has_free (p : Bk → Bool) (p1 p2 p3 : Value) (A : Option Addr) (n c : Nat) (xs : List Bk) (w : World) (h : Sl 2 encBk w A n c xs) (hn : n ≤ 100000)
    (hf : ∀ x, x ∈ xs → ∀ W, Q w W → Calls Try.prog 100 #[.agg #[.int .i64 x.pb.1, .slice (some ⟨x.row, 0, none⟩) x.pb.2.length x.cap], p1, p2, p3] W fun e w' => e = .returned (.bool (p x)) ∧ Q W w') :
    Calls Try.prog 99 #[.slice A n c, .func (.func 100) #[] #[p1, p2, p3]] w fun e w' => e = .returned (.bool (xs.any p)) ∧ Q w w' := by
  have HI := hide (idx_free p p1 p2 p3 A n c xs w h hn hf)
  clear h hf
  go_enter Try.func99, Try.ntmps99
  go_wp2_with fail
  refine HI.out.mono ?_
  rintro e w1 ⟨z, rfl, hq1, hz⟩
  have HZ := hide (IdxPost.has hz)
  clear hz
  go_wp2_with fail
  go_ret
  exact ⟨ret_bool HZ.out, hq1⟩

set_option maxHeartbeats 1000000 in
theorem idx_hold (p : Bk → Bool) (p1 : Value) (A : Option Addr) (n c : Nat) (xs : List Bk) (w : World) (h : Sl 2 encBk w A n c xs) (hn : n ≤ 100000)
    (hf : ∀ x, x ∈ xs → ∀ W, Q w W → Calls Try.prog 52 #[.agg #[.int .i64 x.pb.1, .slice (some ⟨x.row, 0, none⟩) x.pb.2.length x.cap], p1] W fun e w' => e = .returned (.bool (p x)) ∧ Q W w') :
    Calls Try.prog 51 #[.slice A n c, .func (.func 52) #[] #[p1]] w (IdxPost p xs w) := by
  have hl := h.len
  have H := hide h
  have HL := hide hl
  have HF := hide hf
  have hni : (n : Int) ≤ 100000 := by omega
  clear h hl hf
  go_enter Try.func51, Try.ntmps51
  go_wp2_with fail
  go_loopw [8] (fun vi wr => ∃ i : Nat, i ≤ n ∧ vi = .int .i64 i ∧ (∀ j x, j < i → xs[j]? = some x → p x = false) ∧ Q w wr) (fun vi _ => n - (intOf vi).toNat)
  case atStart => exact ⟨0, by omega, by go_num, fun j x hj => by omega, Q.refl _⟩
  case round =>
    obtain ⟨i, hi, rfl, hall, hq⟩ := hrel
    have HALL := hide hall
    clear hall
    have hsz := hq.size
    by_cases hlt : i < n
    · have hd0 : decide (i < n) = true := by simpa using hlt
      have hd1 : decide ((i : Int) < (n : Int)) = true := by simpa using hlt
      have hlti : (i : Int) < (n : Int) := by omega
      obtain ⟨b1, o1, ⟨⟨at_, bs⟩, row, cap⟩, rfl, hb1, g1, x1, x2⟩ := (H.out.up hq).bk i hlt
      dsimp only at x1 x2
      have hm := List.mem_of_getElem? g1
      have HC := hide (HF.out _ hm)
      have G1 := hide g1
      clear g1 hm
      obtain ⟨m, hm⟩ : ∃ m, m = bs.length := ⟨_, rfl⟩
      rw [← hm] at x2
      have HM := hide hm
      clear hm
      go_wp2_with fail
      refine (Calls.mono (by have := HC.out _ (by first | exact hq | exact hq.drew); rw [← HM.out] at this; exact this) ?_)
      rintro e w3 ⟨rfl, hq3⟩
      have hq2 : Q w w3 := by first | exact hq.trans hq3 | exact hq.drew.trans hq3
      cases hp : p ⟨(at_, bs), row, cap⟩
      · have HP := hide hp
        clear hp x1 x2
        go_wp2_with fail
        go_roundw
        case rel => exact ⟨i + 1, by omega, by go_num, fun j x hj hx => by
          by_cases e : j = i
          · subst e
            rw [G1.out] at hx
            cases hx
            exact HP.out
          · exact HALL.out j x (by omega) hx, hq2⟩
        case measure => simp [intOf] <;> omega
      · have HP := hide hp
        clear hp x1 x2
        go_wp2_with fail
        go_ret
        exact ⟨_, rfl, hq2, .inr ⟨i, _, rfl, G1.out, HP.out, HALL.out⟩⟩
    · have hd0 : decide (i < n) = false := by simpa using hlt
      have hd1 : decide ((i : Int) < (n : Int)) = false := by simpa using hlt
      have ha : xs.any p = false := by
        rw [List.any_eq_false]
        intro x hx
        obtain ⟨j, hj, rfl⟩ := List.getElem_of_mem hx
        have := HALL.out j xs[j] (by have := HL.out; omega) (List.getElem?_eq_getElem hj)
        simp [this]
      have HA := hide ha
      clear ha
      go_wp2_with fail
      go_ret
      exact ⟨_, rfl, hq, .inl ⟨rfl, HA.out⟩⟩

set_option maxHeartbeats 1000000 in
theorem idx_gone (p : Bk → Bool) (p1 : Value) (A : Option Addr) (n c : Nat) (xs : List Bk) (w : World) (h : Sl 2 encBk w A n c xs) (hn : n ≤ 100000)
    (hf : ∀ x, x ∈ xs → ∀ W, Q w W → Calls Try.prog 111 #[.agg #[.int .i64 x.pb.1, .slice (some ⟨x.row, 0, none⟩) x.pb.2.length x.cap], p1] W fun e w' => e = .returned (.bool (p x)) ∧ Q W w') :
    Calls Try.prog 51 #[.slice A n c, .func (.func 111) #[] #[p1]] w (IdxPost p xs w) := by
  have hl := h.len
  have H := hide h
  have HL := hide hl
  have HF := hide hf
  have hni : (n : Int) ≤ 100000 := by omega
  clear h hl hf
  go_enter Try.func51, Try.ntmps51
  go_wp2_with fail
  go_loopw [8] (fun vi wr => ∃ i : Nat, i ≤ n ∧ vi = .int .i64 i ∧ (∀ j x, j < i → xs[j]? = some x → p x = false) ∧ Q w wr) (fun vi _ => n - (intOf vi).toNat)
  case atStart => exact ⟨0, by omega, by go_num, fun j x hj => by omega, Q.refl _⟩
  case round =>
    obtain ⟨i, hi, rfl, hall, hq⟩ := hrel
    have HALL := hide hall
    clear hall
    have hsz := hq.size
    by_cases hlt : i < n
    · have hd0 : decide (i < n) = true := by simpa using hlt
      have hd1 : decide ((i : Int) < (n : Int)) = true := by simpa using hlt
      have hlti : (i : Int) < (n : Int) := by omega
      obtain ⟨b1, o1, ⟨⟨at_, bs⟩, row, cap⟩, rfl, hb1, g1, x1, x2⟩ := (H.out.up hq).bk i hlt
      dsimp only at x1 x2
      have hm := List.mem_of_getElem? g1
      have HC := hide (HF.out _ hm)
      have G1 := hide g1
      clear g1 hm
      obtain ⟨m, hm⟩ : ∃ m, m = bs.length := ⟨_, rfl⟩
      rw [← hm] at x2
      have HM := hide hm
      clear hm
      go_wp2_with fail
      refine (Calls.mono (by have := HC.out _ (by first | exact hq | exact hq.drew); rw [← HM.out] at this; exact this) ?_)
      rintro e w3 ⟨rfl, hq3⟩
      have hq2 : Q w w3 := by first | exact hq.trans hq3 | exact hq.drew.trans hq3
      cases hp : p ⟨(at_, bs), row, cap⟩
      · have HP := hide hp
        clear hp x1 x2
        go_wp2_with fail
        go_roundw
        case rel => exact ⟨i + 1, by omega, by go_num, fun j x hj hx => by
          by_cases e : j = i
          · subst e
            rw [G1.out] at hx
            cases hx
            exact HP.out
          · exact HALL.out j x (by omega) hx, hq2⟩
        case measure => simp [intOf] <;> omega
      · have HP := hide hp
        clear hp x1 x2
        go_wp2_with fail
        go_ret
        exact ⟨_, rfl, hq2, .inr ⟨i, _, rfl, G1.out, HP.out, HALL.out⟩⟩
    · have hd0 : decide (i < n) = false := by simpa using hlt
      have hd1 : decide ((i : Int) < (n : Int)) = false := by simpa using hlt
      have ha : xs.any p = false := by
        rw [List.any_eq_false]
        intro x hx
        obtain ⟨j, hj, rfl⟩ := List.getElem_of_mem hx
        have := HALL.out j xs[j] (by have := HL.out; omega) (List.getElem?_eq_getElem hj)
        simp [this]
      have HA := hide ha
      clear ha
      go_wp2_with fail
      go_ret
      exact ⟨_, rfl, hq, .inl ⟨rfl, HA.out⟩⟩

theorem has_gone (p : Bk → Bool) (p1 : Value) (A : Option Addr) (n c : Nat) (xs : List Bk) (w : World) (h : Sl 2 encBk w A n c xs) (hn : n ≤ 100000)
    (hf : ∀ x, x ∈ xs → ∀ W, Q w W → Calls Try.prog 111 #[.agg #[.int .i64 x.pb.1, .slice (some ⟨x.row, 0, none⟩) x.pb.2.length x.cap], p1] W fun e w' => e = .returned (.bool (p x)) ∧ Q W w') :
    Calls Try.prog 99 #[.slice A n c, .func (.func 111) #[] #[p1]] w fun e w' => e = .returned (.bool (xs.any p)) ∧ Q w w' := by
  have HI := hide (idx_gone p p1 A n c xs w h hn hf)
  clear h hf
  go_enter Try.func99, Try.ntmps99
  go_wp2_with fail
  refine HI.out.mono ?_
  rintro e w1 ⟨z, rfl, hq1, hz⟩
  have HZ := hide (IdxPost.has hz)
  clear hz
  go_wp2_with fail
  go_ret
  exact ⟨ret_bool HZ.out, hq1⟩
end Go.Proofs.Ytegpkcbmgjoicaa
