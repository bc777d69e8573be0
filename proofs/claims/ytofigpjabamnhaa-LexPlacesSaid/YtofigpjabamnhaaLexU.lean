/- Kept, of the program and of the reference, where there is an error. Conditions: none. -/
import Derived.Test.YtofigpjabamnhaaLexH
namespace Go.Proofs.Ytofigpjabamnhaa
open Go.RowKit LX
set_option linter.unusedVariables false
theorem Kept_err (s : ByteArray) (f t : Int) (y : ByteArray) (ts0 : List Tok) (n0 e0 : Nat) (w : World) (h0 : lexF (nat s) = (ts0, n0, e0)) (he : e0 ≠ 0) :
    Calls Try.prog 19 #[.string s, edV f t y] w fun en w' => en = .returned (.tuple #[.int .i64 0, .int .i64 0, .int .i64 (e0 : Nat)]) ∧ Q w w' := by
  have hd : ((e0 : Int) != 0) = true := by simp; omega
  have l0 := Lex_any s
  rw [h0] at l0
  have L0 := hide l0
  clear l0 h0
  go_enter Try.func19, Try.ntmps19
  go_wp2_with fail
  refine (L0.out _).mono ?_
  rintro en w1 ⟨v1, rfl, -, hq1⟩
  have hq01 := ((Q.refl w).alloc _).trans hq1
  go_wp2_with fail
  go_ret3
  exact ⟨rfl, hq01⟩
theorem Kept_err2 (s : ByteArray) (f t : Int) (y a src : ByteArray) (e : Nat) (ts0 : List Tok) (n0 : Nat) (ts1 : List Tok) (n1 e1 : Nat) (w : World) (hE : Ed s f t y a e src (ts1, n1, e1)) (h0 : lexF (nat s) = (ts0, n0, 0)) (he : e1 ≠ 0) :
    Calls Try.prog 19 #[.string s, edV f t y] w fun en w' => en = .returned (.tuple #[.int .i64 0, .int .i64 0, .int .i64 (e1 : Nat)]) ∧ Q w w' := by
  have hd : ((e1 : Int) != 0) = true := by simp; omega
  have l0 := Lex_any s
  rw [h0] at l0
  have L0 := hide l0
  have E := hide hE
  clear l0 h0 hE
  go_enter Try.func19, Try.ntmps19
  go_wp2_with fail
  refine (L0.out _).mono ?_
  rintro en w1 ⟨v1, rfl, -, hq1⟩
  have hq01 := ((Q.refl w).alloc _).trans hq1
  have hc1 := hq1.facts.1
  have hs1 : w.heap.size < w1.heap.size := by have := hq1.size; simp at this; omega
  have hsa1 : w.heap.size < (w.alloc (.cells #[.int .i64 f, .int .i64 t, .string y] 30)).heap.size := by simp
  go_wp2_with fail
  refine (E.out.rel _).mono ?_
  rintro en w2 ⟨v2, rfl, -, hq2⟩
  go_wp2_with fail
  go_ret3
  exact ⟨rfl, hq01.trans hq2⟩
theorem rKept_err (s : ByteArray) (f t : Int) (y : ByteArray) (ts0 : List Tok) (n0 e0 : Nat) (w : World) (h0 : lexF (nat s) = (ts0, n0, e0)) (he : e0 ≠ 0) :
    Calls Try.prog 20 #[.string s, edV f t y] w fun en w' => en = .returned (.tuple #[.int .i64 0, .int .i64 0, .int .i64 (e0 : Nat)]) ∧ Q w w' := by
  have hd : ((e0 : Int) != 0) = true := by simp; omega
  have l0 := rLex_any s
  rw [h0] at l0
  have L0 := hide l0
  clear l0 h0
  go_enter Try.func20, Try.ntmps20
  go_wp2_with fail
  refine (L0.out _).mono ?_
  rintro en w1 ⟨v1, rfl, -, hq1⟩
  have hq01 := ((Q.refl w).alloc _).trans hq1
  go_wp2_with fail
  go_ret3
  exact ⟨rfl, hq01⟩
theorem rKept_err2 (s : ByteArray) (f t : Int) (y a src : ByteArray) (e : Nat) (ts0 : List Tok) (n0 : Nat) (ts1 : List Tok) (n1 e1 : Nat) (w : World) (hE : Ed s f t y a e src (ts1, n1, e1)) (h0 : lexF (nat s) = (ts0, n0, 0)) (he : e1 ≠ 0) :
    Calls Try.prog 20 #[.string s, edV f t y] w fun en w' => en = .returned (.tuple #[.int .i64 0, .int .i64 0, .int .i64 (e1 : Nat)]) ∧ Q w w' := by
  have hd : ((e1 : Int) != 0) = true := by simp; omega
  have l0 := rLex_any s
  rw [h0] at l0
  have L0 := hide l0
  have E := hide hE
  clear l0 h0 hE
  go_enter Try.func20, Try.ntmps20
  go_wp2_with fail
  refine (L0.out _).mono ?_
  rintro en w1 ⟨v1, rfl, -, hq1⟩
  have hq01 := ((Q.refl w).alloc _).trans hq1
  have hc1 := hq1.facts.1
  have hs1 : w.heap.size < w1.heap.size := by have := hq1.size; simp at this; omega
  have hsa1 : w.heap.size < (w.alloc (.cells #[.int .i64 f, .int .i64 t, .string y] 30)).heap.size := by simp
  go_wp2_with fail
  refine (E.out.rrel _).mono ?_
  rintro en w2 ⟨v2, rfl, -, hq2⟩
  go_wp2_with fail
  go_ret3
  exact ⟨rfl, hq01.trans hq2⟩
end Go.Proofs.Ytofigpjabamnhaa
