/- The walk of the law's Long. Conditions: the objects read as a list. -/
import Derived.Test.YtjdioilkhbpmoaaLinkG
namespace Go.Proofs.Ytjdioilkhbpmoaa
open Go.RowKit LK
set_option linter.unusedVariables false
def longO (o : OV) : Bool := decide ((1000 : Int) < (o.1.n : Int)) || (decide ((40 : Int) < (o.2.1.n : Int)) || decide ((40 : Int) < (o.2.2.n : Int)))
def longB (os : List OV) : Bool := os.any longO || decide ((12 : Int) < (os.length : Int))
theorem longB_some {os : List OV} {k : Nat} {o : OV} (h : os[k]? = some o) (ho : longO o = true) : longB os = true := by
  unfold longB
  rw [show os.any longO = true from List.any_eq_true.2 ⟨o, List.mem_of_getElem? h, ho⟩]
  rfl
theorem longB_none {os : List OV} (h : ∀ (j : Nat) (o : OV), os[j]? = some o → longO o = false) : longB os = decide ((12 : Int) < (os.length : Int)) := by
  unfold longB
  rw [show os.any longO = false from by
    rw [List.any_eq_false]
    intro x hx
    obtain ⟨j, hj, rfl⟩ := List.getElem_of_mem hx
    rw [h j _ (List.getElem?_eq_getElem hj)]
    exact Bool.false_ne_true]
  rfl
set_option maxRecDepth 100000 in
set_option maxHeartbeats 4000000 in
theorem Long_any (A : Option Addr) (n c : Nat) (os : List OV) (w : World) (hO : ObsR w A n c os) (hc : c ≤ 140737488351232) : Calls Try.prog 10 #[.slice A n c] w fun e w' => e = .returned (.bool (longB os)) ∧ Q w w' := by
  have hl := hO.sl.len
  have hnc := hO.sl.cap
  have hni : (n : Int) ≤ 140737488351232 := by omega
  have HO := hide hO
  have HL := hide hl
  clear hO hl hnc
  go_enter Try.func10, Try.ntmps10
  go_wp2_with fail
  go_loopw [3] (fun vi wr => ∃ k : Nat, k ≤ n ∧ vi = .int .i64 k ∧ (∀ (j : Nat) (o : OV), j < k → os[j]? = some o → longO o = false) ∧ Q w wr) (fun vi _ => n - (intOf vi).toNat)
  case atStart => exact ⟨0, by omega, by go_num, fun j o hj => by omega, Q.refl _⟩
  case round =>
    obtain ⟨k, hk, rfl, hall, hq⟩ := hrel
    have HALL := hide hall
    have HQ := hide hq
    have hsz := hq.size
    clear hall hq
    by_cases hlt : k < n
    · have hd1 : decide ((k : Int) < (n : Int)) = true := by simp; omega
      have hd0 : decide (k < n) = true := by simp; omega
      have hlti : (k : Int) < (n : Int) := by omega
      obtain ⟨b, o, ob, eA, hb, g1, x0, x1, x2, hob⟩ := (HO.out.up HQ.out).at_ k hlt
      subst eA
      obtain ⟨⟨A0, n0, c0, bs⟩, ⟨A1, n1, c1, ss⟩, ⟨A2, n2, c2, ws⟩⟩ := ob
      dsimp only at x0 x1 x2
      have G1 := hide g1
      clear g1 hob
      cases d0 : decide ((1000 : Int) < (n0 : Int))
      · cases d1 : decide ((40 : Int) < (n1 : Int))
        · cases d2 : decide ((40 : Int) < (n2 : Int))
          · have HF := hide (show longO (⟨A0, n0, c0, bs⟩, ⟨A1, n1, c1, ss⟩, ⟨A2, n2, c2, ws⟩) = false by unfold longO; simp only [d0, d1, d2]; rfl)
            go_wp2_with fail
            go_roundw
            case rel => exact ⟨k + 1, by omega, by go_num, fun j o hj ho => by
              by_cases e : j = k
              · subst e
                rw [G1.out] at ho
                cases ho
                exact HF.out
              · exact HALL.out j o (by omega) ho, HQ.out⟩
            case measure => simp [intOf] <;> omega
          · have HF := hide (longB_some G1.out (show longO (⟨A0, n0, c0, bs⟩, ⟨A1, n1, c1, ss⟩, ⟨A2, n2, c2, ws⟩) = true by unfold longO; simp only [d0, d1, d2]; rfl))
            go_wp2_with fail
            go_ret
            exact ⟨by rw [HF.out]; rfl, HQ.out⟩
        · have HF := hide (longB_some G1.out (show longO (⟨A0, n0, c0, bs⟩, ⟨A1, n1, c1, ss⟩, ⟨A2, n2, c2, ws⟩) = true by unfold longO; simp only [d0, d1]; rfl))
          go_wp2_with fail
          go_ret
          exact ⟨by rw [HF.out]; rfl, HQ.out⟩
      · have HF := hide (longB_some G1.out (show longO (⟨A0, n0, c0, bs⟩, ⟨A1, n1, c1, ss⟩, ⟨A2, n2, c2, ws⟩) = true by unfold longO; simp only [d0]; rfl))
        go_wp2_with fail
        go_ret
        exact ⟨by rw [HF.out]; rfl, HQ.out⟩
    · have hd1 : decide ((k : Int) < (n : Int)) = false := by simp; omega
      have hd0 : decide (k < n) = false := by simp; omega
      obtain rfl : k = n := by omega
      have E := hide (longB_none (os := os) (fun j o h => HALL.out j o (by have := (List.getElem?_eq_some_iff.1 h).1; have := HL.out; omega) h))
      go_wp2_with fail
      go_ret
      exact ⟨by rw [E.out, HL.out]; rfl, HQ.out⟩
end Go.Proofs.Ytjdioilkhbpmoaa
