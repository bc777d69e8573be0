/- isAlign (slices.Contains at []int), fresh (slices.Repeat), counted. Conditions: as each theorem says. -/
import Derived.Test.YtegpkcbmgjoicaaHpD
import Derived.Test.YtegpkcbmgjoicaaHpSh
import Derived.Test.YtegpkcbmgjoicaaBase
namespace Go.Proofs.Ytegpkcbmgjoicaa
open Go.RowKit HP
set_option linter.unusedVariables false
def encN (x : Int) : List Value := [.int .i64 x]
def IdxI (x : Int) (xs : List Int) (w : World) (e : Ending) (w' : World) : Prop := ∃ z : Int, e = .returned (.int .i64 z) ∧ decide (0 ≤ z) = xs.any (· == x) ∧ Q w w'
set_option maxHeartbeats 1000000 in
theorem index_any (A : Option Addr) (n c : Nat) (xs : List Int) (x : Int) (w : World) (h : Sl 1 encN w A n c xs) (hn : n ≤ 100000) :
    Calls Try.prog 61 #[.slice A n c, .int .i64 x] w (IdxI x xs w) := by
  have H := hide h
  have HL := hide h.len
  have hni : (n : Int) ≤ 100000 := by omega
  clear h
  go_enter Try.func61, Try.ntmps61
  go_wp2_with fail
  go_loopw [8] (fun vi wr => ∃ i : Nat, i ≤ n ∧ vi = .int .i64 i ∧ (∀ j y, j < i → xs[j]? = some y → (y == x) = false) ∧ Q w wr) (fun vi _ => n - (intOf vi).toNat)
  case atStart => exact ⟨0, by omega, by go_num, fun j x hj => by omega, Q.refl _⟩
  case round =>
    obtain ⟨i, hi, rfl, hall, hq⟩ := hrel
    have HALL := hide hall
    clear hall
    have hsz := hq.size
    by_cases hlt : i < n
    · have hd0 : decide (i < n) = true := by simpa using hlt
      have hd1 : decide ((i : Int) < (n : Int)) = true := by simpa using hlt
      have hlti : (i : Int) < (n : Int) := by omega
      obtain ⟨b1, o1, y, rfl, hb1, g1, hc⟩ := (H.out.up hq).at_ (fun _ => rfl) (by decide) i hlt
      have x1 : wr.cell? ⟨b1, o1 + i, none⟩ = some (.int .i64 y) := by simpa using hc 0 _ rfl
      have G1 := hide g1
      clear g1 hc
      by_cases he : x = y
      · have he1 : (x == y) = true := by simpa using he
        have HE : Hid (xs.any (· == x) = true) := List.any_eq_true.2 ⟨y, List.mem_of_getElem? G1.out, by simp [he]⟩
        clear he
        go_wp2_with fail
        go_ret
        exact ⟨_, rfl, by rw [HE.out]; simp, hq⟩
      · have he1 : (x == y) = false := by simpa using he
        have HE : Hid ((y == x) = false) := hide (by simpa using Ne.symm he)
        clear he
        go_wp2_with fail
        go_roundw
        case rel => exact ⟨i + 1, by omega, by go_num, fun j z hj hz => by
          by_cases e : j = i
          · subst e
            rw [G1.out] at hz
            cases hz
            exact HE.out
          · exact HALL.out j z (by omega) hz, by first | exact hq | exact hq.drew⟩
        case measure => simp [intOf] <;> omega
    · have hd0 : decide (i < n) = false := by simpa using hlt
      have hd1 : decide ((i : Int) < (n : Int)) = false := by simpa using hlt
      have ha : xs.any (· == x) = false := by
        rw [List.any_eq_false]
        intro y hy
        obtain ⟨j, hj, rfl⟩ := List.getElem_of_mem hy
        have := HALL.out j xs[j] (by have := HL.out; omega) (List.getElem?_eq_getElem hj)
        simp [this]
      have HA := hide ha
      clear ha
      go_wp2_with fail
      go_ret
      exact ⟨_, rfl, by rw [HA.out]; rfl, hq⟩
theorem contains_any (A : Option Addr) (n c : Nat) (xs : List Int) (x : Int) (w : World) (h : Sl 1 encN w A n c xs) (hn : n ≤ 100000) :
    Calls Try.prog 43 #[.slice A n c, .int .i64 x] w fun e w' => e = .returned (.bool (xs.any (· == x))) ∧ Q w w' := by
  have HI := hide (index_any A n c xs x w h hn)
  clear h
  go_enter Try.func43, Try.ntmps43
  go_wp2_with fail
  refine HI.out.mono ?_
  rintro e w1 ⟨z, rfl, hz, hq1⟩
  have HZ := hide hz
  clear hz
  go_wp2_with fail
  go_ret
  exact ⟨ret_bool HZ.out, hq1⟩
def alignB (a : Int) : Bool := [1, 2, 4, 8, 16].any fun x : Int => x == a
theorem isAlign_any (a : Int) (w : World) : Calls Try.prog 26 #[.int .i64 a] w fun e w' => e = .returned (.bool (alignB a)) ∧ Q w w' := by
  obtain ⟨w1, hw1⟩ : ∃ w1, w.alloc (.cells #[.int .i64 1, .int .i64 2, .int .i64 4, .int .i64 8, .int .i64 16] 3) = w1 := ⟨_, rfl⟩
  have hq1 : Q w w1 := by rw [← hw1]; exact (Q.refl w).alloc _
  have hS : Sl 1 encN w1 (some ⟨w.heap.size, 0, none⟩) 5 5 [1, 2, 4, 8, 16] := by
    refine ⟨.inr ⟨w.heap.size, 0, rfl, by rw [← hw1]; simp, fun j u hu => ?_⟩, rfl, by decide, by decide⟩
    rw [← hw1, Nat.zero_add, cell_new, ← hu]
    simp [encN]
  have HC := hide (contains_any _ 5 5 [1, 2, 4, 8, 16] a w1 hS (by decide))
  have HW := hide hw1
  clear hw1 hS
  unfold alignB
  go_enter Try.func26, Try.ntmps26
  go_wp2_with fail
  rw [HW.out]
  refine HC.out.mono ?_
  rintro e w2 ⟨rfl, hq2⟩
  go_wp2_with fail
  go_ret
  exact ⟨ret_bool (by simp [List.any]), hq1.trans hq2⟩
end Go.Proofs.Ytegpkcbmgjoicaa
