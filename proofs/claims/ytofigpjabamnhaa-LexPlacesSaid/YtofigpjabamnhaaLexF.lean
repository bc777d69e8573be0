/- The walks of edited, Apply, Relex, of the program and of the reference. Conditions: sizes as the laws say. -/
import Derived.Test.YtofigpjabamnhaaLexN
namespace Go.Proofs.Ytofigpjabamnhaa
open Go.RowKit LX
set_option linter.unusedVariables false
abbrev edV (f t : Int) (y : ByteArray) : Value := .agg #[.int .i64 f, .int .i64 t, .string y]
/-- the edit is one of a text of n bytes -/
def eOk (f t : Int) (n : Nat) : Prop := 0 ≤ f ∧ f ≤ t ∧ t ≤ (n : Int)
def editB (s : ByteArray) (f t : Nat) (y : ByteArray) : ByteArray := s.extract 0 f ++ y ++ s.extract t s.size
theorem edited_no (s : ByteArray) (f t : Int) (y : ByteArray) (w : World) (h : ¬ eOk f t s.size) : Calls Try.prog 32 #[.string s, edV f t y] w fun e w' => e = .returned (.tuple #[.string ⟨#[]⟩, .int .i64 1]) ∧ Q w w' := by
  unfold eOk at h
  by_cases h1 : f < 0
  · have d1 : decide (f < 0) = true := by simpa using h1
    clear h
    go_enter Try.func32, Try.ntmps32
    go_wp2_with fail
    go_ret2
    exact ⟨rfl, (Q.refl w).alloc _⟩
  · have d1 : decide (f < 0) = false := by simpa using h1
    by_cases h2 : t < f
    · have d2 : decide (t < f) = true := by simpa using h2
      clear h
      go_enter Try.func32, Try.ntmps32
      go_wp2_with fail
      go_ret2
      exact ⟨rfl, (Q.refl w).alloc _⟩
    · have d2 : decide (t < f) = false := by simpa using h2
      have h3 : (s.size : Int) < t := by omega
      have d3 : decide ((s.size : Int) < t) = true := by simpa using h3
      clear h
      go_enter Try.func32, Try.ntmps32
      go_wp2_with fail
      go_ret2
      exact ⟨rfl, (Q.refl w).alloc _⟩
theorem redited_no (s : ByteArray) (f t : Int) (y : ByteArray) (w : World) (h : ¬ eOk f t s.size) : Calls Try.prog 33 #[.string s, edV f t y] w fun e w' => e = .returned (.tuple #[.string ⟨#[]⟩, .int .i64 1]) ∧ Q w w' := by
  unfold eOk at h
  by_cases h1 : f < 0
  · have d1 : decide (f < 0) = true := by simpa using h1
    clear h
    go_enter Try.func33, Try.ntmps33
    go_wp2_with fail
    go_ret2
    exact ⟨rfl, (Q.refl w).alloc _⟩
  · have d1 : decide (f < 0) = false := by simpa using h1
    by_cases h2 : (s.size : Int) < t
    · have d2 : decide ((s.size : Int) < t) = true := by simpa using h2
      clear h
      go_enter Try.func33, Try.ntmps33
      go_wp2_with fail
      go_ret2
      exact ⟨rfl, (Q.refl w).alloc _⟩
    · have d2 : decide ((s.size : Int) < t) = false := by simpa using h2
      have h3 : t < f := by omega
      have d3 : decide (t < f) = true := by simpa using h3
      clear h
      go_enter Try.func33, Try.ntmps33
      go_wp2_with fail
      go_ret2
      exact ⟨rfl, (Q.refl w).alloc _⟩
theorem redited_yes (s : ByteArray) (f t : Nat) (y : ByteArray) (w : World) (hs : s.size ≤ 6000) (hy : y.size ≤ 6000) (h1 : f ≤ t) (h2 : t ≤ s.size) :
    Calls Try.prog 33 #[.string s, edV (f : Nat) (t : Nat) y] w fun e w' => e = .returned (.tuple #[.string (editB s f t y), .int .i64 0]) ∧ Q w w' := by
  have hsi : (s.size : Int) ≤ 6000 := by omega
  have hyi : (y.size : Int) ≤ 6000 := by omega
  have h1i : (f : Int) ≤ (t : Int) := by omega
  have h2i : (t : Int) ≤ (s.size : Int) := by omega
  have h3i : (f : Int) ≤ (s.size : Int) := by omega
  have d1 : decide ((f : Int) < 0) = false := by simp
  have d2 : decide ((s.size : Int) < (t : Int)) = false := by simp; omega
  have d2' : decide (s.size < t) = false := by simp; omega
  have d3 : decide ((t : Int) < (f : Int)) = false := by simp; omega
  have d3' : decide (t < f) = false := by simp; omega
  go_enter Try.func33, Try.ntmps33
  go_wp2_with fail
  have hxc := ext_cell
  refine wp_region_ext (by kernel_rfl) (by kernel_rfl) ?_
  repeat (go_big_quiet_step ((fail)))
  clear hxc
  refine wpQuiet_nil ?_
  intro wz hwwz
  have hqwz := q_of_ext hwwz
  clear hwwz
  obtain ⟨hcwz, hfwz, hzwz⟩ := hqwz.facts
  try simp at hzwz
  try have hs0wz : w.heap.size < wz.heap.size := by omega
  try have hs1wz : w.heap.size + 1 < wz.heap.size := by omega
  clear hcwz hfwz
  go_wp2_with fail
  go_ret2
  exact ⟨rfl, ((Q.refl w).alloc _).trans hqwz⟩
theorem editB_size (s : ByteArray) (f t : Nat) (y : ByteArray) (h1 : f ≤ t) (h2 : t ≤ s.size) : (editB s f t y).size = f + y.size + (s.size - t) := by
  unfold editB
  simp
  omega
theorem edited_yes (s : ByteArray) (f t : Nat) (y : ByteArray) (w : World) (hs : s.size ≤ 6000) (hy : y.size ≤ 6000) (h1 : f ≤ t) (h2 : t ≤ s.size) (h4 : (editB s f t y).size ≤ 4000) :
    Calls Try.prog 32 #[.string s, edV (f : Nat) (t : Nat) y] w fun e w' => e = .returned (.tuple #[.string (editB s f t y), .int .i64 0]) ∧ Q w w' := by
  rw [editB_size s f t y h1 h2] at h4
  have hsi : (s.size : Int) ≤ 6000 := by omega
  have hyi : (y.size : Int) ≤ 6000 := by omega
  have h1i : (f : Int) ≤ (t : Int) := by omega
  have h2i : (t : Int) ≤ (s.size : Int) := by omega
  have h3i : (f : Int) ≤ (s.size : Int) := by omega
  have d1 : decide ((f : Int) < 0) = false := by simp
  have d2 : decide ((s.size : Int) < (t : Int)) = false := by simp; omega
  have d2' : decide (s.size < t) = false := by simp; omega
  have d3 : decide ((t : Int) < (f : Int)) = false := by simp; omega
  have d3' : decide (t < f) = false := by simp; omega
  have d4 : decide (4000 < (s.size : Int) - ((t : Int) - (f : Int)) + (y.size : Int)) = false := by simp; omega
  go_enter Try.func32, Try.ntmps32
  go_wp2_with fail
  have hxc := ext_cell
  refine wp_region_ext (by kernel_rfl) (by kernel_rfl) ?_
  repeat (go_big_quiet_step ((fail)))
  clear hxc
  refine wpQuiet_nil ?_
  intro wz hwwz
  have hqwz := q_of_ext hwwz
  clear hwwz
  obtain ⟨hcwz, hfwz, hzwz⟩ := hqwz.facts
  try simp at hzwz
  try have hs0wz : w.heap.size < wz.heap.size := by omega
  try have hs1wz : w.heap.size + 1 < wz.heap.size := by omega
  clear hcwz hfwz
  go_wp2_with fail
  go_ret2
  exact ⟨rfl, ((Q.refl w).alloc _).trans hqwz⟩
theorem edited_large (s : ByteArray) (f t : Nat) (y : ByteArray) (w : World) (hs : s.size ≤ 6000) (hy : y.size ≤ 6000) (h1 : f ≤ t) (h2 : t ≤ s.size) (h4 : 4000 < (editB s f t y).size) :
    Calls Try.prog 32 #[.string s, edV (f : Nat) (t : Nat) y] w fun e w' => e = .returned (.tuple #[.string ⟨#[]⟩, .int .i64 3]) ∧ Q w w' := by
  rw [editB_size s f t y h1 h2] at h4
  have hsi : (s.size : Int) ≤ 6000 := by omega
  have hyi : (y.size : Int) ≤ 6000 := by omega
  have h1i : (f : Int) ≤ (t : Int) := by omega
  have h2i : (t : Int) ≤ (s.size : Int) := by omega
  have h3i : (f : Int) ≤ (s.size : Int) := by omega
  have d1 : decide ((f : Int) < 0) = false := by simp
  have d2 : decide ((s.size : Int) < (t : Int)) = false := by simp; omega
  have d2' : decide (s.size < t) = false := by simp; omega
  have d3 : decide ((t : Int) < (f : Int)) = false := by simp; omega
  have d3' : decide (t < f) = false := by simp; omega
  have d4 : decide (4000 < (s.size : Int) - ((t : Int) - (f : Int)) + (y.size : Int)) = true := by simp; omega
  go_enter Try.func32, Try.ntmps32
  go_wp2_with fail
  go_ret2
  exact ⟨rfl, (Q.refl w).alloc _⟩
/-- what comes of an edit: the text and the error of Apply; the text, the tokens, the number and the error of Relex -/
structure Ed (s : ByteArray) (f t : Int) (y a : ByteArray) (e : Nat) (src : ByteArray) (r : List Tok × Nat × Nat) : Prop where
  len : r.1.length ≤ 1000
  ok : e = 0 → src = a ∧ lexF (nat a) = r
  ap : ∀ w, Calls Try.prog 15 #[.string s, edV f t y] w fun en w' => en = .returned (.tuple #[.string a, .int .i64 (e : Nat)]) ∧ Q w w'
  rap : ∀ w, Calls Try.prog 16 #[.string s, edV f t y] w fun en w' => en = .returned (.tuple #[.string a, .int .i64 (e : Nat)]) ∧ Q w w'
  rel : ∀ w, Calls Try.prog 17 #[.string s, edV f t y] w (LexPost w src r)
  rrel : ∀ w, Calls Try.prog 18 #[.string s, edV f t y] w (LexPost w src r)
theorem LexPost.up {w0 w : World} {s : ByteArray} {r : List Tok × Nat × Nat} {e : Ending} {w' : World} (hq : Q w0 w) (h : LexPost w s r e w') : LexPost w0 s r e w' := by
  obtain ⟨v, he, ho, hq'⟩ := h
  exact ⟨v, he, ho.mono hq.size, hq.trans hq'⟩
/-- the source has an error -/
theorem ed_err (s : ByteArray) (f t : Int) (y : ByteArray) (r : List Tok × Nat × Nat) (hr : lexF (nat s) = r) (h : r.2.2 ≠ 0) : Ed s f t y ⟨#[]⟩ r.2.2 s ([], r.2.1, r.2.2) := by
  obtain ⟨ts, n, er⟩ := r
  dsimp only at h ⊢
  have hd : ((er : Int) != 0) = true := by simp; omega
  have l1 := Lex_any s
  have l2 := rLex_any s
  rw [hr] at l1 l2
  have L1 := hide l1
  have L2 := hide l2
  clear l1 l2 hr
  refine ⟨by simp, fun e => absurd e h, fun w => ?_, fun w => ?_, fun w => ?_, fun w => ?_⟩
  · clear h
    go_enter Try.func15, Try.ntmps15
    go_wp2_with fail
    refine (L1.out _).mono ?_
    rintro e w1 ⟨v1, rfl, hown1, hq1⟩
    clear hown1
    go_wp2_with fail
    go_ret2
    exact ⟨rfl, ((Q.refl w).alloc _).trans hq1⟩
  · clear h
    go_enter Try.func16, Try.ntmps16
    go_wp2_with fail
    refine (L2.out _).mono ?_
    rintro e w1 ⟨v1, rfl, hown1, hq1⟩
    clear hown1
    go_wp2_with fail
    go_ret2
    exact ⟨rfl, ((Q.refl w).alloc _).trans hq1⟩
  · clear h
    go_enter Try.func17, Try.ntmps17
    go_wp2_with fail
    refine (L1.out _).mono ?_
    rintro e w1 ⟨v1, rfl, hown1, hq1⟩
    clear hown1
    go_wp2_with fail
    go_ret3
    exact ⟨_, rfl, World.ownsRow_nil _ _ _ _, ((Q.refl w).alloc _).trans hq1⟩
  · clear h
    go_enter Try.func18, Try.ntmps18
    go_wp2_with fail
    refine (L2.out _).mono ?_
    rintro e w1 ⟨v1, rfl, hown1, hq1⟩
    clear hown1
    go_wp2_with fail
    go_ret3
    exact ⟨_, rfl, World.ownsRow_nil _ _ _ _, ((Q.refl w).alloc _).trans hq1⟩
/-- the edit is none of the source -/
theorem ed_no (s : ByteArray) (f t : Int) (y : ByteArray) (r : List Tok × Nat × Nat) (hr : lexF (nat s) = r) (h : r.2.2 = 0) (hn : ¬ eOk f t s.size) : Ed s f t y ⟨#[]⟩ 1 s ([], 0, 1) := by
  obtain ⟨ts, n, er⟩ := r
  dsimp only at h
  subst h
  have l1 := Lex_any s
  have l2 := rLex_any s
  rw [hr] at l1 l2
  have L1 := hide l1
  have L2 := hide l2
  have HN := hide hn
  clear l1 l2 hr hn
  refine ⟨by simp, fun e => by omega, fun w => ?_, fun w => ?_, fun w => ?_, fun w => ?_⟩
  · go_enter Try.func15, Try.ntmps15
    go_wp2_with fail
    refine (L1.out _).mono ?_
    rintro e w1 ⟨v1, rfl, hown1, hq1⟩
    have hq0 := ((Q.refl w).alloc _).trans hq1
    obtain ⟨hc1, hf1, hz1⟩ := hq1.facts
    have hs0 : w.heap.size < w1.heap.size := by simp at hz1; omega
    clear hown1
    go_wp2_with fail
    refine (edited_no s f t y _ HN.out).mono ?_
    rintro e w2 ⟨rfl, hq2⟩
    go_wp2_with fail
    go_ret2
    exact ⟨rfl, hq0.trans hq2⟩
  · go_enter Try.func16, Try.ntmps16
    go_wp2_with fail
    refine (L2.out _).mono ?_
    rintro e w1 ⟨v1, rfl, hown1, hq1⟩
    have hq0 := ((Q.refl w).alloc _).trans hq1
    obtain ⟨hc1, hf1, hz1⟩ := hq1.facts
    have hs0 : w.heap.size < w1.heap.size := by simp at hz1; omega
    clear hown1
    go_wp2_with fail
    refine (redited_no s f t y _ HN.out).mono ?_
    rintro e w2 ⟨rfl, hq2⟩
    go_wp2_with fail
    go_ret2
    exact ⟨rfl, hq0.trans hq2⟩
  · go_enter Try.func17, Try.ntmps17
    go_wp2_with fail
    refine (L1.out _).mono ?_
    rintro e w1 ⟨v1, rfl, hown1, hq1⟩
    have hq0 := ((Q.refl w).alloc _).trans hq1
    obtain ⟨hc1, hf1, hz1⟩ := hq1.facts
    have hs0 : w.heap.size < w1.heap.size := by simp at hz1; omega
    clear hown1
    go_wp2_with fail
    refine (edited_no s f t y _ HN.out).mono ?_
    rintro e w2 ⟨rfl, hq2⟩
    go_wp2_with fail
    go_ret3
    exact ⟨_, rfl, World.ownsRow_nil _ _ _ _, hq0.trans hq2⟩
  · go_enter Try.func18, Try.ntmps18
    go_wp2_with fail
    refine (L2.out _).mono ?_
    rintro e w1 ⟨v1, rfl, hown1, hq1⟩
    have hq0 := ((Q.refl w).alloc _).trans hq1
    obtain ⟨hc1, hf1, hz1⟩ := hq1.facts
    have hs0 : w.heap.size < w1.heap.size := by simp at hz1; omega
    clear hown1
    go_wp2_with fail
    refine (redited_no s f t y _ HN.out).mono ?_
    rintro e w2 ⟨rfl, hq2⟩
    go_wp2_with fail
    go_ret3
    exact ⟨_, rfl, World.ownsRow_nil _ _ _ _, hq0.trans hq2⟩
end Go.Proofs.Ytofigpjabamnhaa
