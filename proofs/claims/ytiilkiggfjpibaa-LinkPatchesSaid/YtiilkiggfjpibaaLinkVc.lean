/- The walks of the reference's changing and of the program's begin: one error. Conditions: the objects read as such. -/
import Derived.Test.YtiilkiggfjpibaaLinkVb
namespace Go.Proofs.Ytiilkiggfjpibaa
open Go.RowKit LK
set_option linter.unusedVariables false
set_option linter.unusedSimpArgs false
/-- what stands against the exchange of object i for o -/
def changeE (n : Nat) (os : List OV) (i : Int) (o : OV) : Nat := if listedO os ≠ 0 then listedO os else if 0 ≤ i ∧ i < n then o.valid else 4
set_option maxRecDepth 100000 in
set_option maxHeartbeats 4000000 in
theorem changing_any (A : Option Addr) (n c : Nat) (os : List OV) (i : Int) (o : OV) (w : World) (hO : ObsR w A n c os) (ho : ObR w o) : Calls Try.prog 80 #[.slice A n c, .int .i64 i, obV o] w fun e w' => e = .returned (.int .i64 (changeE n os i o : Nat)) ∧ Q w w' := by
  have HOB := hide ho
  obtain ⟨⟨A0, n0, c0, bs⟩, ⟨A1, n1, c1, ss⟩, ⟨A2, n2, c2, ws⟩⟩ := o
  have hq1 : Q w (w.alloc (.cells #[.slice A0 n0 c0, .slice A1 n1 c1, .slice A2 n2 c2] 34)) := (Q.refl w).alloc _
  have HLI := hide (rlisted_any A n c os _ (hO.up hq1))
  have HV := hide (fun W (h : Q w W) => rValidate_any A0 n0 c0 A1 n1 c1 ss A2 n2 c2 ws W (ho.up h).s (ho.up h).t ho.sok ho.tok)
  have k0 : (w.alloc (.cells #[.slice A0 n0 c0, .slice A1 n1 c1, .slice A2 n2 c2] 34)).cell? ⟨w.heap.size, 0, none⟩ = some (.slice A0 n0 c0) := by simp
  have k1 : (w.alloc (.cells #[.slice A0 n0 c0, .slice A1 n1 c1, .slice A2 n2 c2] 34)).cell? ⟨w.heap.size, 1, none⟩ = some (.slice A1 n1 c1) := by simp
  have k2 : (w.alloc (.cells #[.slice A0 n0 c0, .slice A1 n1 c1, .slice A2 n2 c2] 34)).cell? ⟨w.heap.size, 2, none⟩ = some (.slice A2 n2 c2) := by simp
  have hs1 : w.heap.size < (w.alloc (.cells #[.slice A0 n0 c0, .slice A1 n1 c1, .slice A2 n2 c2] 34)).heap.size := by simp
  have hmost := hO.sl.most
  have hcap := hO.sl.cap
  have hni : (n : Int) ≤ 9223372036854775807 := by omega
  have hll := listedO_le os
  have hCE : changeE n os i (⟨A0, n0, c0, bs⟩, ⟨A1, n1, c1, ss⟩, ⟨A2, n2, c2, ws⟩) = if listedO os ≠ 0 then listedO os else if 0 ≤ i ∧ i < n then validF n0 ss ws else 4 := rfl
  obtain ⟨le, hle⟩ : ∃ le, listedO os = le := ⟨_, rfl⟩
  obtain ⟨vd, hvd⟩ : ∃ vd, validF n0 ss ws = vd := ⟨_, rfl⟩
  rw [hle] at HLI hll
  rw [hvd] at HV
  rw [hle, hvd] at hCE
  rw [hCE]
  unfold obV SlV.val
  dsimp only
  have hwi := within_any i 0 ((n : Int) - 1)
  have HWI := hide hwi
  have HQ1 := hide hq1
  have K0 := hide k0
  have K1 := hide k1
  have K2 := hide k2
  clear hq1 k0 k1 k2
  clear hO ho hle hvd hCE hwi hmost hcap
  rcases Nat.eq_zero_or_pos le with h0 | h0
  · subst h0
    rw [if_neg (by simp)]
    by_cases hin : 0 ≤ i ∧ i < n
    · rw [if_pos hin]
      have hwt : inB i 0 ((n : Int) - 1) = true := by unfold inB; simp; omega
      rw [hwt] at HWI
      clear hin hwt
      go_enter Try.func80, Try.ntmps80
      go_wp2_with fail
      refine HLI.out.mono ?_
      rintro e w2 ⟨rfl, hq2⟩
      have k0 := (hq2.facts.1 _ 0 hs1).trans K0.out
      have k1 := (hq2.facts.1 _ 1 hs1).trans K1.out
      have k2 := (hq2.facts.1 _ 2 hs1).trans K2.out
      have HQ2 := hide (HQ1.out.trans hq2)
      clear hq2
      go_wp2_with fail
      refine (HWI.out _).mono ?_
      rintro e w3 ⟨rfl, rfl⟩
      go_wp2_with fail
      refine (HV.out _ HQ2.out).mono ?_
      rintro e w4 ⟨rfl, hq4⟩
      go_wp2_with fail
      go_ret
      exact ⟨rfl, HQ2.out.trans hq4⟩
    · rw [if_neg hin]
      have hwt : inB i 0 ((n : Int) - 1) = false := by unfold inB; simp; omega
      rw [hwt] at HWI
      clear hin hwt
      go_enter Try.func80, Try.ntmps80
      go_wp2_with fail
      refine HLI.out.mono ?_
      rintro e w2 ⟨rfl, hq2⟩
      have HQ2 := hide (HQ1.out.trans hq2)
      clear hq2
      go_wp2_with fail
      refine (HWI.out _).mono ?_
      rintro e w3 ⟨rfl, rfl⟩
      go_wp2_with fail
      go_ret
      exact ⟨rfl, HQ2.out⟩
  · rw [if_pos (by omega)]
    have hd : ((le : Int) != 0) = true := by simp; omega
    clear h0
    go_enter Try.func80, Try.ntmps80
    go_wp2_with fail
    refine HLI.out.mono ?_
    rintro e w2 ⟨rfl, hq2⟩
    have HQ2 := hide (HQ1.out.trans hq2)
    clear hq2
    go_wp2_with fail
    go_ret
    exact ⟨rfl, HQ2.out⟩
end Go.Proofs.Ytiilkiggfjpibaa
