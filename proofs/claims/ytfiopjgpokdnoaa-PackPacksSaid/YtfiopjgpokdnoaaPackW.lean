/- The walks of package pack's Unpack and Items. Conditions: the slice reads as bytes. -/
import Derived.Test.YtfiopjgpokdnoaaPackV
namespace Go.Proofs.Ytfiopjgpokdnoaa
open Go.RowKit PP
set_option linter.unusedVariables false
theorem unpack_all (A : Option Addr) (n c : Nat) (bs : List Nat) (w : World) (h : Bytes w A n c bs) : Calls Try.prog 44 #[.slice A n c] w (unpackPost w bs) := by
  by_cases hn : n ≤ 8192
  · exact unpack_any A n c bs w h hn
  · exact unpack_big A n c bs w h (by omega)
def UnpackPost (w : World) (bs : List Nat) (e : Ending) (w' : World) : Prop :=
  ∃ v, e = .returned (.tuple #[v, .int .i64 ((unpackF bs).2.2 : Nat)]) ∧ w'.ownsRow w.heap.size 5 1 v (unpackF bs).1.length ((unpackF bs).1.map byteV) ∧ Q w w'
theorem Unpack_any (A : Option Addr) (n c : Nat) (bs : List Nat) (w : World) (h : Bytes w A n c bs) : Calls Try.prog 18 #[.slice A n c] w (UnpackPost w bs) := by
  have H := hide h
  clear h
  go_enter Try.func18, Try.ntmps18
  go_wp2_with fail
  refine (unpack_all A n c bs _ H.out).mono ?_
  rintro e w1 ⟨v, rfl, hown, hq⟩
  go_wp2_with fail
  go_ret2
  exact ⟨_, rfl, hown, hq⟩
theorem Items_any (A : Option Addr) (n c : Nat) (bs : List Nat) (w : World) (h : Bytes w A n c bs) :
    Calls Try.prog 20 #[.slice A n c] w fun e w' => e = .returned (.tuple #[.int .i64 ((unpackF bs).2.1 : Nat), .int .i64 ((unpackF bs).2.2 : Nat)]) ∧ Q w w' := by
  have H := hide h
  clear h
  go_enter Try.func20, Try.ntmps20
  go_wp2_with fail
  refine (unpack_all A n c bs _ H.out).mono ?_
  rintro e w1 ⟨v, rfl, hown, hq⟩
  go_wp2_with fail
  go_ret2
  exact ⟨rfl, hq⟩
end Go.Proofs.Ytfiopjgpokdnoaa
