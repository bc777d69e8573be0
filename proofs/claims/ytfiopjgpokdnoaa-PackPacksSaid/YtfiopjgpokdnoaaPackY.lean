/- The walks of the reference's unpacked, Unpack, Items. Conditions: the slice reads as bytes. -/
import Derived.Test.YtfiopjgpokdnoaaPackX
namespace Go.Proofs.Ytfiopjgpokdnoaa
open Go.RowKit PP
set_option linter.unusedVariables false
def unpackedPost (w : World) (bs : List Nat) (e : Ending) (w' : World) : Prop :=
  ∃ v, e = .returned (.tuple #[.int .i64 ((unpackF bs).2.1 : Nat), v, .int .i64 ((unpackF bs).2.2 : Nat)]) ∧ w'.ownsRow w.heap.size 5 1 v (unpackF bs).1.length ((unpackF bs).1.map byteV) ∧ Q w w'
theorem unpacked_any (A : Option Addr) (n c : Nat) (bs : List Nat) (w : World) (h : Bytes w A n c bs) : Calls Try.prog 45 #[.slice A n c] w (unpackedPost w bs) := by
  have hl := h.len
  by_cases hn : n ≤ 8192
  · have hn' : ¬ 8192 < (n : Int) := by omega
    have hi := items_any A n c bs
    have hu : unpackF bs = (match itemsF bs with | none => ([], 0, 11) | some (n, out) => if 4096 < out.length then ([], 0, 3) else (out, n, 0)) := by
      unfold unpackF; rw [if_neg (by omega)]
      cases itemsF bs <;> rfl
    have HU := hide hu
    have H := hide h
    have HI := hide hi
    clear hu h hi hl
    go_enter Try.func45, Try.ntmps45
    go_wp2_with fail
    refine (HI.out _ H.out hn).mono ?_
    rintro e w1 (⟨hn1, rfl, hq⟩ | ⟨k, out, v, hn1, hk, hol, rfl, hown, hq⟩)
    · have hE : unpackF bs = ([], 0, 11) := by rw [HU.out, hn1]
      have HE := hide hE
      clear hE hn1
      go_wp2_with fail
      go_ret3
      exact ⟨_, by rw [HE.out]; rfl, by rw [HE.out]; exact World.ownsRow_nil _ _ _ _, hq⟩
    · obtain ⟨Ao, co, eo, ho1, ho2, ho3, hrdo⟩ := own_form hown
      subst eo
      clear ho3 hrdo
      have hol' : (out.length : Int) ≤ 1064960 := by omega
      by_cases h4 : 4096 < out.length
      · have hE : unpackF bs = ([], 0, 3) := by rw [HU.out, hn1]; simp [h4]
        have HE := hide hE
        have h4' : 4096 < (out.length : Int) := by omega
        clear hE hn1
        go_wp2_with fail
        go_ret3
        exact ⟨_, by rw [HE.out]; rfl, by rw [HE.out]; exact World.ownsRow_nil _ _ _ _, hq⟩
      · have hE : unpackF bs = (out, k, 0) := by rw [HU.out, hn1]; simp [h4]
        have HE := hide hE
        have h4' : ¬ 4096 < (out.length : Int) := by omega
        clear hE hn1
        go_wp2_with fail
        go_ret3
        exact ⟨_, by rw [HE.out]; rfl, by rw [HE.out]; exact hown, hq⟩
  · have e : unpackF bs = ([], 0, 3) := by unfold unpackF; rw [if_pos (by omega)]
    have E := hide e
    have hn' : 8192 < (n : Int) := by omega
    clear e hl h
    go_enter Try.func45, Try.ntmps45
    go_wp2_with fail
    go_ret3
    exact ⟨_, by rw [E.out]; rfl, by rw [E.out]; exact World.ownsRow_nil _ _ _ _, Q.refl _⟩
theorem rUnpack_any (A : Option Addr) (n c : Nat) (bs : List Nat) (w : World) (h : Bytes w A n c bs) : Calls Try.prog 19 #[.slice A n c] w (UnpackPost w bs) := by
  have H := hide h
  clear h
  go_enter Try.func19, Try.ntmps19
  go_wp2_with fail
  refine (unpacked_any A n c bs _ H.out).mono ?_
  rintro e w1 ⟨v, rfl, hown, hq⟩
  go_wp2_with fail
  go_ret2
  exact ⟨_, rfl, hown, hq⟩
theorem rItems_any (A : Option Addr) (n c : Nat) (bs : List Nat) (w : World) (h : Bytes w A n c bs) :
    Calls Try.prog 21 #[.slice A n c] w fun e w' => e = .returned (.tuple #[.int .i64 ((unpackF bs).2.1 : Nat), .int .i64 ((unpackF bs).2.2 : Nat)]) ∧ Q w w' := by
  have H := hide h
  clear h
  go_enter Try.func21, Try.ntmps21
  go_wp2_with fail
  refine (unpacked_any A n c bs _ H.out).mono ?_
  rintro e w1 ⟨v, rfl, hown, hq⟩
  go_wp2_with fail
  go_ret2
  exact ⟨rfl, hq⟩
end Go.Proofs.Ytfiopjgpokdnoaa
