/- The walk of the law LexPlaces. Conditions: none. -/
import Derived.Test.YtofigpjabamnhaaLexAu
import Derived.Test.YtofigpjabamnhaaLexY
namespace Go.Proofs.Ytofigpjabamnhaa
open Go.RowKit LX
set_option linter.unusedVariables false
theorem at_all (s : ByteArray) (p : Int) (hs : s.size ≤ 6000) : ∃ g is e, AtS s p g is e := by
  obtain ⟨⟨ts0, n0, e0⟩, hr⟩ : ∃ r, lexF (nat s) = r := ⟨_, rfl⟩
  by_cases he : e0 = 0
  · subst he
    by_cases hp : p < 0 ∨ (s.size : Int) ≤ p
    · exact ⟨_, _, _, ⟨fun w => At_bad s p ts0 n0 w hr hp, fun w => rAt_bad s p ts0 n0 w hr hp⟩⟩
    · have hbd : ∀ g ∈ ts0.map (gOf s), 0 ≤ g.2.1 ∧ g.2.1 ≤ 6000 ∧ g.2.2.size ≤ 6000 := fun g hg => by
        obtain ⟨x, hx, rfl⟩ := List.mem_map.1 hg
        have l0 := lexF_ok hr
        have hh := toks_hi ((nat s).length + 1) (nat s) 0
        rw [l0, nat_length] at hh
        have := hh x hx
        simp [gOf]
        omega
      exact ⟨_, _, _, ⟨fun w => At_ok s p ts0 n0 w hs hr (by omega) (by omega) hbd, fun w => rAt_ok s p ts0 n0 w hs hr (by omega) (by omega) hbd⟩⟩
  · exact ⟨_, _, _, ⟨fun w => At_err s p ts0 n0 e0 w hr he, fun w => rAt_err s p ts0 n0 e0 w hr he⟩⟩
set_option maxHeartbeats 2000000 in
theorem LexPlaces_true (s : ByteArray) (p : Int) (w : World) : Calls Try.prog 8 #[.string s, .int .i64 p] w fun e w' => e = .returned (.bool true) ∧ Q w w' := by
  by_cases hl : 6000 < s.size
  · have d1 : decide (6000 < (s.size : Int)) = true := by simp; omega
    go_enter Try.func8, Try.ntmps8
    go_wp2_with fail
    refine (known_any _).mono ?_
    rintro e w1 ⟨rfl, hq⟩
    go_wp2_with fail
    go_ret
    exact ⟨rfl, hq⟩
  · have d1 : decide (6000 < (s.size : Int)) = false := by simp; omega
    obtain ⟨⟨gk, ga, gt⟩, is, e, hA⟩ := at_all s p (by omega)
    obtain ⟨wa, wb, we, hW⟩ := where_all s p (by omega)
    have HA := hide hA
    have HW := hide hW
    clear hA hW hl
    have hee : ∀ W, (binOp .eql 38 (.agg #[.int .i64 gk, .int .i64 ga, .string gt]) (.agg #[.int .i64 gk, .int .i64 ga, .string gt])).run Try.prog W = .ok (.bool true) W := fun W => by
      have := eql_tok (gk, ga, gt) (gk, ga, gt) W
      rw [eqG_of _ _ rfl rfl rfl] at this
      exact this
    have b1 : (is == is) = true := by simp
    have b2 : ((e : Int) == (e : Int)) = true := by simp
    have b3 : (wa == wa) = true := by simp
    have b4 : (wb == wb) = true := by simp
    have b5 : ((we : Int) == (we : Int)) = true := by simp
    go_enter Try.func8, Try.ntmps8
    go_wp2_with fail
    refine (HA.out.pr _).mono ?_
    rintro en w1 ⟨rfl, hq1⟩
    go_wp2_with fail
    refine (HA.out.rf _).mono ?_
    rintro en w2 ⟨rfl, hq2⟩
    have hs2 : w1.heap.size < w2.heap.size := by have := hq2.size; simp at this; omega
    go_wp2_with fail
    refine (HW.out.pr _).mono ?_
    rintro en w3 ⟨rfl, hq3⟩
    have hs3 : w2.heap.size < w3.heap.size := by have := hq3.size; simp at this; omega
    go_wp2_with fail
    refine (HW.out.rf _).mono ?_
    rintro en w4 ⟨rfl, hq4⟩
    have hs4 := hq4.size
    have ha2 := ((Q.refl w2).alloc (.cells #[.int .i64 gk, .int .i64 ga, .string gt] 38)).facts.1
    have x0 : w4.cell? ⟨w1.heap.size, 0, none⟩ = some (.int .i64 gk) := by rw [hq4.facts.1 _ _ (by omega), hq3.facts.1 _ _ (by simp; omega), ha2 _ _ hs2, hq2.facts.1 _ _ (by simp)]; simp
    have x1 : w4.cell? ⟨w1.heap.size, 1, none⟩ = some (.int .i64 ga) := by rw [hq4.facts.1 _ _ (by omega), hq3.facts.1 _ _ (by simp; omega), ha2 _ _ hs2, hq2.facts.1 _ _ (by simp)]; simp
    have x2 : w4.cell? ⟨w1.heap.size, 2, none⟩ = some (.string gt) := by rw [hq4.facts.1 _ _ (by omega), hq3.facts.1 _ _ (by simp; omega), ha2 _ _ hs2, hq2.facts.1 _ _ (by simp)]; simp
    have y0 : w4.cell? ⟨w2.heap.size, 0, none⟩ = some (.int .i64 gk) := by rw [hq4.facts.1 _ _ (by omega), hq3.facts.1 _ _ (by simp)]; simp
    have y1 : w4.cell? ⟨w2.heap.size, 1, none⟩ = some (.int .i64 ga) := by rw [hq4.facts.1 _ _ (by omega), hq3.facts.1 _ _ (by simp)]; simp
    have y2 : w4.cell? ⟨w2.heap.size, 2, none⟩ = some (.string gt) := by rw [hq4.facts.1 _ _ (by omega), hq3.facts.1 _ _ (by simp)]; simp
    have hq04 : Q w w4 := (((hq1.alloc _).trans hq2).alloc _).trans (hq3.trans hq4)
    have hh1 : w1.heap.size < w4.heap.size := by omega
    have hh2 : w2.heap.size < w4.heap.size := by omega
    clear ha2
    go_wp2_with fail
    refine (known_any _).mono ?_
    rintro e w5 ⟨rfl, hq5⟩
    go_wp2_with fail
    go_ret
    exact ⟨rfl, hq04.trans hq5⟩
end Go.Proofs.Ytofigpjabamnhaa
