/- The walks of At, of the program and of the reference. Conditions: the text is not immense. -/
import Derived.Test.YtofigpjabamnhaaLexAt
namespace Go.Proofs.Ytofigpjabamnhaa
open Go.RowKit LX
set_option linter.unusedVariables false
def zG : G := (0, 0, ⟨#[]⟩)
theorem set3 (w : World) (R : Nat) (c0 c1 c2 u0 u1 u2 : Value) (y0 : w.cell? ⟨R, 0, none⟩ = some c0) (y1 : w.cell? ⟨R, 1, none⟩ = some c1) (y2 : w.cell? ⟨R, 2, none⟩ = some c2) :
    (w.setCell ⟨R, 0, none⟩ u0).cell? ⟨R, 0, none⟩ = some u0 ∧ ((w.setCell ⟨R, 0, none⟩ u0).setCell ⟨R, 1, none⟩ u1).cell? ⟨R, 1, none⟩ = some u1 ∧
    (((w.setCell ⟨R, 0, none⟩ u0).setCell ⟨R, 1, none⟩ u1).setCell ⟨R, 2, none⟩ u2).cell? ⟨R, 2, none⟩ = some u2 := by
  refine ⟨World.cell?_setCell_same _ _ _ y0, ?_, ?_⟩
  · refine World.cell?_setCell_same _ _ _ (?_ : _ = some c1)
    rw [World.cell?_setCell_other _ _ _ _ (by simp)]
    exact y1
  · refine World.cell?_setCell_same _ _ _ (?_ : _ = some c2)
    rw [World.cell?_setCell_other _ _ _ _ (by simp), World.cell?_setCell_other _ _ _ _ (by simp)]
    exact y2
theorem At_err (s : ByteArray) (p : Int) (ts0 : List Tok) (n0 e0 : Nat) (w : World) (h0 : lexF (nat s) = (ts0, n0, e0)) (he : e0 ≠ 0) :
    Calls Try.prog 24 #[.string s, .int .i64 p] w fun en w' => en = .returned (.tuple #[gV zG, .bool false, .int .i64 (e0 : Nat)]) ∧ Q w w' := by
  have hd : ((e0 : Int) != 0) = true := by simp; omega
  have l0 := Lex_any s
  rw [h0] at l0
  have L0 := hide l0
  clear l0 h0
  go_enter Try.func24, Try.ntmps24
  go_wp2_with fail
  refine (L0.out _).mono ?_
  rintro en w1 ⟨v1, rfl, hown1, hq1⟩
  obtain ⟨hf1, hf2, hf3⟩ := hq1.facts
  have hR1 : w.heap.size + 1 < w1.heap.size := by simp at hf3; omega
  have hR0 : w.heap.size < w1.heap.size := by simp at hf3; omega
  have x0 : w1.cell? ⟨w.heap.size, 0, none⟩ = some (.int .i64 p) := by rw [hf1 _ _ (by simp <;> omega)]; simp
  have y0 : w1.cell? ⟨w.heap.size + 1, 0, none⟩ = some (.int .i64 0) := by rw [hf1 _ _ (by simp <;> omega)]; simp
  have y1 : w1.cell? ⟨w.heap.size + 1, 1, none⟩ = some (.int .i64 0) := by rw [hf1 _ _ (by simp <;> omega)]; simp
  have y2 : w1.cell? ⟨w.heap.size + 1, 2, none⟩ = some (.string ⟨#[]⟩) := by rw [hf1 _ _ (by simp <;> omega)]; simp
  have z0 : w1.frozen? ⟨w.heap.size + 1, 0, none⟩ = false := by rw [hf2 _ _ (by simp <;> omega)]; simp
  have z1 : w1.frozen? ⟨w.heap.size + 1, 1, none⟩ = false := by rw [hf2 _ _ (by simp <;> omega)]; simp
  have z2 : w1.frozen? ⟨w.heap.size + 1, 2, none⟩ = false := by rw [hf2 _ _ (by simp <;> omega)]; simp
  clear hf1 hf2 hf3
  have hq01 : Q w w1 := (((Q.refl w).alloc _).alloc _).trans hq1
  clear hown1
  go_wp2_with fail
  obtain ⟨s0, s1, s2⟩ := set3 w1 (w.heap.size + 1) _ _ _ (.int .i64 0) (.int .i64 0) (.string ⟨#[]⟩) y0 y1 y2
  refine bodyPost_ret (v := .tuple #[.agg #[.int .i64 0, .int .i64 0, .string ⟨#[]⟩], .bool false, .int .i64 (e0 : Nat)]) (by simp [results, Try.results24, go_sem, s0, s1, s2]) rfl ⟨rfl, ?_⟩
  exact ((Q.set hq01 (by simp) _).set (by simp) _).set (by simp) _
theorem At_bad (s : ByteArray) (p : Int) (ts0 : List Tok) (n0 : Nat) (w : World) (h0 : lexF (nat s) = (ts0, n0, 0)) (hp : p < 0 ∨ (s.size : Int) ≤ p) :
    Calls Try.prog 24 #[.string s, .int .i64 p] w fun en w' => en = .returned (.tuple #[gV zG, .bool false, .int .i64 1]) ∧ Q w w' := by
  have l0 := Lex_any s
  rw [h0] at l0
  have L0 := hide l0
  clear l0 h0
  by_cases h1 : p < 0
  · have d1 : decide (p < 0) = true := by simpa using h1
    clear hp
    go_enter Try.func24, Try.ntmps24
    go_wp2_with fail
    refine (L0.out _).mono ?_
    rintro en w1 ⟨v1, rfl, hown1, hq1⟩
    obtain ⟨hf1, hf2, hf3⟩ := hq1.facts
    have hR1 : w.heap.size + 1 < w1.heap.size := by simp at hf3; omega
    have hR0 : w.heap.size < w1.heap.size := by simp at hf3; omega
    have x0 : w1.cell? ⟨w.heap.size, 0, none⟩ = some (.int .i64 p) := by rw [hf1 _ _ (by simp <;> omega)]; simp
    have y0 : w1.cell? ⟨w.heap.size + 1, 0, none⟩ = some (.int .i64 0) := by rw [hf1 _ _ (by simp <;> omega)]; simp
    have y1 : w1.cell? ⟨w.heap.size + 1, 1, none⟩ = some (.int .i64 0) := by rw [hf1 _ _ (by simp <;> omega)]; simp
    have y2 : w1.cell? ⟨w.heap.size + 1, 2, none⟩ = some (.string ⟨#[]⟩) := by rw [hf1 _ _ (by simp <;> omega)]; simp
    have z0 : w1.frozen? ⟨w.heap.size + 1, 0, none⟩ = false := by rw [hf2 _ _ (by simp <;> omega)]; simp
    have z1 : w1.frozen? ⟨w.heap.size + 1, 1, none⟩ = false := by rw [hf2 _ _ (by simp <;> omega)]; simp
    have z2 : w1.frozen? ⟨w.heap.size + 1, 2, none⟩ = false := by rw [hf2 _ _ (by simp <;> omega)]; simp
    clear hf1 hf2 hf3
    have hq01 : Q w w1 := (((Q.refl w).alloc _).alloc _).trans hq1
    clear hown1
    go_wp2_with fail
    obtain ⟨s0, s1, s2⟩ := set3 w1 (w.heap.size + 1) _ _ _ (.int .i64 0) (.int .i64 0) (.string ⟨#[]⟩) y0 y1 y2
    refine bodyPost_ret (v := .tuple #[.agg #[.int .i64 0, .int .i64 0, .string ⟨#[]⟩], .bool false, .int .i64 1]) (by simp [results, Try.results24, go_sem, s0, s1, s2]) rfl ⟨rfl, ?_⟩
    exact ((Q.set hq01 (by simp) _).set (by simp) _).set (by simp) _
  · have d1 : decide (p < 0) = false := by simpa using h1
    have d2 : decide ((s.size : Int) ≤ p) = true := by simp; omega
    clear hp
    go_enter Try.func24, Try.ntmps24
    go_wp2_with fail
    refine (L0.out _).mono ?_
    rintro en w1 ⟨v1, rfl, hown1, hq1⟩
    obtain ⟨hf1, hf2, hf3⟩ := hq1.facts
    have hR1 : w.heap.size + 1 < w1.heap.size := by simp at hf3; omega
    have hR0 : w.heap.size < w1.heap.size := by simp at hf3; omega
    have x0 : w1.cell? ⟨w.heap.size, 0, none⟩ = some (.int .i64 p) := by rw [hf1 _ _ (by simp <;> omega)]; simp
    have y0 : w1.cell? ⟨w.heap.size + 1, 0, none⟩ = some (.int .i64 0) := by rw [hf1 _ _ (by simp <;> omega)]; simp
    have y1 : w1.cell? ⟨w.heap.size + 1, 1, none⟩ = some (.int .i64 0) := by rw [hf1 _ _ (by simp <;> omega)]; simp
    have y2 : w1.cell? ⟨w.heap.size + 1, 2, none⟩ = some (.string ⟨#[]⟩) := by rw [hf1 _ _ (by simp <;> omega)]; simp
    have z0 : w1.frozen? ⟨w.heap.size + 1, 0, none⟩ = false := by rw [hf2 _ _ (by simp <;> omega)]; simp
    have z1 : w1.frozen? ⟨w.heap.size + 1, 1, none⟩ = false := by rw [hf2 _ _ (by simp <;> omega)]; simp
    have z2 : w1.frozen? ⟨w.heap.size + 1, 2, none⟩ = false := by rw [hf2 _ _ (by simp <;> omega)]; simp
    clear hf1 hf2 hf3
    have hq01 : Q w w1 := (((Q.refl w).alloc _).alloc _).trans hq1
    clear hown1
    go_wp2_with fail
    obtain ⟨s0, s1, s2⟩ := set3 w1 (w.heap.size + 1) _ _ _ (.int .i64 0) (.int .i64 0) (.string ⟨#[]⟩) y0 y1 y2
    refine bodyPost_ret (v := .tuple #[.agg #[.int .i64 0, .int .i64 0, .string ⟨#[]⟩], .bool false, .int .i64 1]) (by simp [results, Try.results24, go_sem, s0, s1, s2]) rfl ⟨rfl, ?_⟩
    exact ((Q.set hq01 (by simp) _).set (by simp) _).set (by simp) _
set_option maxHeartbeats 1000000 in
theorem At_ok (s : ByteArray) (p : Int) (ts0 : List Tok) (n0 : Nat) (w : World) (hs : s.size ≤ 6000) (h0 : lexF (nat s) = (ts0, n0, 0)) (hp0 : 0 ≤ p) (hp1 : p < (s.size : Int)) (hb : ∀ g ∈ ts0.map (gOf s), 0 ≤ g.2.1 ∧ g.2.1 ≤ 6000 ∧ g.2.2.size ≤ 6000) :
    Calls Try.prog 24 #[.string s, .int .i64 p] w fun en w' => en = .returned (.tuple #[gV (((ts0.map (gOf s)).find? (inG p)).getD zG), .bool ((ts0.map (gOf s)).find? (inG p)).isSome, .int .i64 0]) ∧ Q w w' := by
  have hsi : (s.size : Int) ≤ 6000 := by omega
  have d1 : decide (p < 0) = false := by simp; omega
  have d2 : decide ((s.size : Int) ≤ p) = false := by simp; omega
  have hlen0 := lexF_len (nat s)
  have l0 := Lex_any s
  rw [h0] at l0 hlen0
  dsimp only at hlen0
  have L0 := hide l0
  have HBD := hide hb
  obtain ⟨ks, hks⟩ : ∃ ks, ts0.map (gOf s) = ks := ⟨_, rfl⟩
  rw [hks] at HBD
  rw [hks]
  have hkl : ks.length = ts0.length := by rw [← hks]; simp
  have HKS := hide hks
  have HKL := hide hkl
  clear l0 h0 hb hks hkl
  obtain ⟨F, hF⟩ : ∃ F, ks.find? (inG p) = F := ⟨_, rfl⟩
  rw [hF]
  have HF := hide hF
  clear hF
  go_enter Try.func24, Try.ntmps24
  go_wp2_with fail
  refine (L0.out _).mono ?_
  rintro en w1 ⟨v1, rfl, hown1, hq1⟩
  obtain ⟨hf1, hf2, hf3⟩ := hq1.facts
  have hR1 : w.heap.size + 1 < w1.heap.size := by simp at hf3; omega
  have hR0 : w.heap.size < w1.heap.size := by simp at hf3; omega
  have x0 : w1.cell? ⟨w.heap.size, 0, none⟩ = some (.int .i64 p) := by rw [hf1 _ _ (by simp <;> omega)]; simp
  have y0 : w1.cell? ⟨w.heap.size + 1, 0, none⟩ = some (.int .i64 0) := by rw [hf1 _ _ (by simp <;> omega)]; simp
  have y1 : w1.cell? ⟨w.heap.size + 1, 1, none⟩ = some (.int .i64 0) := by rw [hf1 _ _ (by simp <;> omega)]; simp
  have y2 : w1.cell? ⟨w.heap.size + 1, 2, none⟩ = some (.string ⟨#[]⟩) := by rw [hf1 _ _ (by simp <;> omega)]; simp
  have z0 : w1.frozen? ⟨w.heap.size + 1, 0, none⟩ = false := by rw [hf2 _ _ (by simp <;> omega)]; simp
  have z1 : w1.frozen? ⟨w.heap.size + 1, 1, none⟩ = false := by rw [hf2 _ _ (by simp <;> omega)]; simp
  have z2 : w1.frozen? ⟨w.heap.size + 1, 2, none⟩ = false := by rw [hf2 _ _ (by simp <;> omega)]; simp
  clear hf1 hf2 hf3
  have hq01 : Q w w1 := (((Q.refl w).alloc _).alloc _).trans hq1
  dsimp only at hown1
  obtain ⟨A0, c0, rfl, g0⟩ := gtoks_own hown1 hlen0
  rw [HKS.out] at g0
  have G0 := hide g0
  clear hown1 g0
  go_wp2_with fail
  refine (indexFunc_any _ _ _ ks p w.heap.size _ G0.out hlen0 HBD.out hR0 x0).mono ?_
  rintro en w2 ⟨hcase, hq2⟩
  obtain ⟨hf1, hf2, hf3⟩ := hq2.facts
  have hR1' : w.heap.size + 1 < w2.heap.size := by omega
  have hRw : w.heap.size < w2.heap.size := by omega
  have y0' : w2.cell? ⟨w.heap.size + 1, 0, none⟩ = some (.int .i64 0) := (hf1 _ _ hR1).trans y0
  have y1' : w2.cell? ⟨w.heap.size + 1, 1, none⟩ = some (.int .i64 0) := (hf1 _ _ hR1).trans y1
  have y2' : w2.cell? ⟨w.heap.size + 1, 2, none⟩ = some (.string ⟨#[]⟩) := (hf1 _ _ hR1).trans y2
  have z0' : w2.frozen? ⟨w.heap.size + 1, 0, none⟩ = false := (hf2 _ _ hR1).trans z0
  have z1' : w2.frozen? ⟨w.heap.size + 1, 1, none⟩ = false := (hf2 _ _ hR1).trans z1
  have z2' : w2.frozen? ⟨w.heap.size + 1, 2, none⟩ = false := (hf2 _ _ hR1).trans z2
  clear hf1 hf2 hf3
  have hq02 := hq01.trans hq2
  rcases hcase with ⟨i, ⟨k1, a1, t1⟩, hi, hg, hf, rfl⟩ | ⟨hf, rfl⟩
  · rw [HF.out] at hf
    obtain ⟨b1, o1, k2, a2, t2, rfl, hb1, g1, v1, v2, v3⟩ := (G0.out.up hq2).at_ i (by have := HKL.out; omega)
    rw [hg] at g1
    cases g1
    subst hf
    have hii : (i : Int) < (ts0.length : Int) := by have := HKL.out; omega
    clear hg hi
    have di : decide ((i : Int) < 0) = false := by simp
    go_wp2_with fail
    obtain ⟨s0, s1, s2⟩ := set3 w2 (w.heap.size + 1) _ _ _ (.int .i64 k1) (.int .i64 a1) (.string t1) y0' y1' y2'
    refine bodyPost_ret (v := .tuple #[.agg #[.int .i64 k1, .int .i64 a1, .string t1], .bool true, .int .i64 0]) (by simp [results, Try.results24, go_sem, s0, s1, s2]) rfl ⟨rfl, ?_⟩
    exact ((Q.set hq02 (by simp) _).set (by simp) _).set (by simp) _
  · rw [HF.out] at hf
    subst hf
    go_wp2_with fail
    obtain ⟨s0, s1, s2⟩ := set3 w2 (w.heap.size + 1) _ _ _ (.int .i64 0) (.int .i64 0) (.string ⟨#[]⟩) y0' y1' y2'
    refine bodyPost_ret (v := .tuple #[.agg #[.int .i64 0, .int .i64 0, .string ⟨#[]⟩], .bool false, .int .i64 0]) (by simp [results, Try.results24, go_sem, s0, s1, s2]) rfl ⟨rfl, ?_⟩
    exact ((Q.set hq02 (by simp) _).set (by simp) _).set (by simp) _
theorem rAt_err (s : ByteArray) (p : Int) (ts0 : List Tok) (n0 e0 : Nat) (w : World) (h0 : lexF (nat s) = (ts0, n0, e0)) (he : e0 ≠ 0) :
    Calls Try.prog 25 #[.string s, .int .i64 p] w fun en w' => en = .returned (.tuple #[gV zG, .bool false, .int .i64 (e0 : Nat)]) ∧ Q w w' := by
  have hd : ((e0 : Int) != 0) = true := by simp; omega
  have l0 := rLex_any s
  rw [h0] at l0
  have L0 := hide l0
  clear l0 h0
  go_enter Try.func25, Try.ntmps25
  go_wp2_with fail
  refine (L0.out _).mono ?_
  rintro en w1 ⟨v1, rfl, hown1, hq1⟩
  obtain ⟨hf1, hf2, hf3⟩ := hq1.facts
  have hR1 : w.heap.size < w1.heap.size := by simp at hf3; omega
  have y0 : w1.cell? ⟨w.heap.size, 0, none⟩ = some (.int .i64 0) := by rw [hf1 _ _ (by simp <;> omega)]; simp
  have y1 : w1.cell? ⟨w.heap.size, 1, none⟩ = some (.int .i64 0) := by rw [hf1 _ _ (by simp <;> omega)]; simp
  have y2 : w1.cell? ⟨w.heap.size, 2, none⟩ = some (.string ⟨#[]⟩) := by rw [hf1 _ _ (by simp <;> omega)]; simp
  have z0 : w1.frozen? ⟨w.heap.size, 0, none⟩ = false := by rw [hf2 _ _ (by simp <;> omega)]; simp
  have z1 : w1.frozen? ⟨w.heap.size, 1, none⟩ = false := by rw [hf2 _ _ (by simp <;> omega)]; simp
  have z2 : w1.frozen? ⟨w.heap.size, 2, none⟩ = false := by rw [hf2 _ _ (by simp <;> omega)]; simp
  clear hf1 hf2 hf3
  have hq01 : Q w w1 := ((Q.refl w).alloc _).trans hq1
  clear hown1
  go_wp2_with fail
  obtain ⟨s0, s1, s2⟩ := set3 w1 (w.heap.size) _ _ _ (.int .i64 0) (.int .i64 0) (.string ⟨#[]⟩) y0 y1 y2
  refine bodyPost_ret (v := .tuple #[.agg #[.int .i64 0, .int .i64 0, .string ⟨#[]⟩], .bool false, .int .i64 (e0 : Nat)]) (by simp [results, Try.results25, go_sem, s0, s1, s2]) rfl ⟨rfl, ?_⟩
  exact ((Q.set hq01 (by simp) _).set (by simp) _).set (by simp) _
theorem rAt_bad (s : ByteArray) (p : Int) (ts0 : List Tok) (n0 : Nat) (w : World) (h0 : lexF (nat s) = (ts0, n0, 0)) (hp : p < 0 ∨ (s.size : Int) ≤ p) :
    Calls Try.prog 25 #[.string s, .int .i64 p] w fun en w' => en = .returned (.tuple #[gV zG, .bool false, .int .i64 1]) ∧ Q w w' := by
  have l0 := rLex_any s
  rw [h0] at l0
  have L0 := hide l0
  clear l0 h0
  by_cases h1 : p < 0
  · have d1 : decide (p < 0) = true := by simpa using h1
    clear hp
    go_enter Try.func25, Try.ntmps25
    go_wp2_with fail
    refine (L0.out _).mono ?_
    rintro en w1 ⟨v1, rfl, hown1, hq1⟩
    obtain ⟨hf1, hf2, hf3⟩ := hq1.facts
    have hR1 : w.heap.size < w1.heap.size := by simp at hf3; omega
    have y0 : w1.cell? ⟨w.heap.size, 0, none⟩ = some (.int .i64 0) := by rw [hf1 _ _ (by simp <;> omega)]; simp
    have y1 : w1.cell? ⟨w.heap.size, 1, none⟩ = some (.int .i64 0) := by rw [hf1 _ _ (by simp <;> omega)]; simp
    have y2 : w1.cell? ⟨w.heap.size, 2, none⟩ = some (.string ⟨#[]⟩) := by rw [hf1 _ _ (by simp <;> omega)]; simp
    have z0 : w1.frozen? ⟨w.heap.size, 0, none⟩ = false := by rw [hf2 _ _ (by simp <;> omega)]; simp
    have z1 : w1.frozen? ⟨w.heap.size, 1, none⟩ = false := by rw [hf2 _ _ (by simp <;> omega)]; simp
    have z2 : w1.frozen? ⟨w.heap.size, 2, none⟩ = false := by rw [hf2 _ _ (by simp <;> omega)]; simp
    clear hf1 hf2 hf3
    have hq01 : Q w w1 := ((Q.refl w).alloc _).trans hq1
    clear hown1
    go_wp2_with fail
    obtain ⟨s0, s1, s2⟩ := set3 w1 (w.heap.size) _ _ _ (.int .i64 0) (.int .i64 0) (.string ⟨#[]⟩) y0 y1 y2
    refine bodyPost_ret (v := .tuple #[.agg #[.int .i64 0, .int .i64 0, .string ⟨#[]⟩], .bool false, .int .i64 1]) (by simp [results, Try.results25, go_sem, s0, s1, s2]) rfl ⟨rfl, ?_⟩
    exact ((Q.set hq01 (by simp) _).set (by simp) _).set (by simp) _
  · have d1 : decide (p < 0) = false := by simpa using h1
    have d2 : decide ((s.size : Int) ≤ p) = true := by simp; omega
    clear hp
    go_enter Try.func25, Try.ntmps25
    go_wp2_with fail
    refine (L0.out _).mono ?_
    rintro en w1 ⟨v1, rfl, hown1, hq1⟩
    obtain ⟨hf1, hf2, hf3⟩ := hq1.facts
    have hR1 : w.heap.size < w1.heap.size := by simp at hf3; omega
    have y0 : w1.cell? ⟨w.heap.size, 0, none⟩ = some (.int .i64 0) := by rw [hf1 _ _ (by simp <;> omega)]; simp
    have y1 : w1.cell? ⟨w.heap.size, 1, none⟩ = some (.int .i64 0) := by rw [hf1 _ _ (by simp <;> omega)]; simp
    have y2 : w1.cell? ⟨w.heap.size, 2, none⟩ = some (.string ⟨#[]⟩) := by rw [hf1 _ _ (by simp <;> omega)]; simp
    have z0 : w1.frozen? ⟨w.heap.size, 0, none⟩ = false := by rw [hf2 _ _ (by simp <;> omega)]; simp
    have z1 : w1.frozen? ⟨w.heap.size, 1, none⟩ = false := by rw [hf2 _ _ (by simp <;> omega)]; simp
    have z2 : w1.frozen? ⟨w.heap.size, 2, none⟩ = false := by rw [hf2 _ _ (by simp <;> omega)]; simp
    clear hf1 hf2 hf3
    have hq01 : Q w w1 := ((Q.refl w).alloc _).trans hq1
    clear hown1
    go_wp2_with fail
    obtain ⟨s0, s1, s2⟩ := set3 w1 (w.heap.size) _ _ _ (.int .i64 0) (.int .i64 0) (.string ⟨#[]⟩) y0 y1 y2
    refine bodyPost_ret (v := .tuple #[.agg #[.int .i64 0, .int .i64 0, .string ⟨#[]⟩], .bool false, .int .i64 1]) (by simp [results, Try.results25, go_sem, s0, s1, s2]) rfl ⟨rfl, ?_⟩
    exact ((Q.set hq01 (by simp) _).set (by simp) _).set (by simp) _
set_option maxHeartbeats 1000000 in
theorem rAt_ok (s : ByteArray) (p : Int) (ts0 : List Tok) (n0 : Nat) (w : World) (hs : s.size ≤ 6000) (h0 : lexF (nat s) = (ts0, n0, 0)) (hp0 : 0 ≤ p) (hp1 : p < (s.size : Int)) (hb : ∀ g ∈ ts0.map (gOf s), 0 ≤ g.2.1 ∧ g.2.1 ≤ 6000 ∧ g.2.2.size ≤ 6000) :
    Calls Try.prog 25 #[.string s, .int .i64 p] w fun en w' => en = .returned (.tuple #[gV (((ts0.map (gOf s)).find? (inG p)).getD zG), .bool ((ts0.map (gOf s)).find? (inG p)).isSome, .int .i64 0]) ∧ Q w w' := by
  have hsi : (s.size : Int) ≤ 6000 := by omega
  have d1 : decide (p < 0) = false := by simp; omega
  have d2 : decide ((s.size : Int) ≤ p) = false := by simp; omega
  have hlen0 := lexF_len (nat s)
  have l0 := rLex_any s
  rw [h0] at l0 hlen0
  dsimp only at hlen0
  have L0 := hide l0
  have HBD := hide hb
  obtain ⟨ks, hks⟩ : ∃ ks, ts0.map (gOf s) = ks := ⟨_, rfl⟩
  rw [hks] at HBD
  rw [hks]
  have hkl : ks.length = ts0.length := by rw [← hks]; simp
  have HKS := hide hks
  have HKL := hide hkl
  clear l0 h0 hb hks hkl
  obtain ⟨F, hF⟩ : ∃ F, ks.find? (inG p) = F := ⟨_, rfl⟩
  rw [hF]
  have HF := hide hF
  clear hF
  go_enter Try.func25, Try.ntmps25
  go_wp2_with fail
  refine (L0.out _).mono ?_
  rintro en w1 ⟨v1, rfl, hown1, hq1⟩
  obtain ⟨hf1, hf2, hf3⟩ := hq1.facts
  have hR1 : w.heap.size < w1.heap.size := by simp at hf3; omega
  have y0 : w1.cell? ⟨w.heap.size, 0, none⟩ = some (.int .i64 0) := by rw [hf1 _ _ (by simp <;> omega)]; simp
  have y1 : w1.cell? ⟨w.heap.size, 1, none⟩ = some (.int .i64 0) := by rw [hf1 _ _ (by simp <;> omega)]; simp
  have y2 : w1.cell? ⟨w.heap.size, 2, none⟩ = some (.string ⟨#[]⟩) := by rw [hf1 _ _ (by simp <;> omega)]; simp
  have z0 : w1.frozen? ⟨w.heap.size, 0, none⟩ = false := by rw [hf2 _ _ (by simp <;> omega)]; simp
  have z1 : w1.frozen? ⟨w.heap.size, 1, none⟩ = false := by rw [hf2 _ _ (by simp <;> omega)]; simp
  have z2 : w1.frozen? ⟨w.heap.size, 2, none⟩ = false := by rw [hf2 _ _ (by simp <;> omega)]; simp
  clear hf1 hf2 hf3
  have hq01 : Q w w1 := ((Q.refl w).alloc _).trans hq1
  dsimp only at hown1
  obtain ⟨A0, c0, rfl, g0⟩ := gtoks_own hown1 hlen0
  rw [HKS.out] at g0
  have G0 := hide g0
  clear hown1 g0
  go_wp2_with fail
  go_loopw [10] (fun v wl => ∃ i : Nat, i ≤ ts0.length ∧ v = .int .i64 i ∧ (∀ j a, j < i → ks[j]? = some a → inG p a = false) ∧ Q w1 wl) (fun v _ => ts0.length - (intOf v).toNat)
  case atStart => exact ⟨0, by omega, by go_num, fun j a hj => by omega, Q.refl _⟩
  case round =>
    obtain ⟨i, hi, rfl, hall, hq⟩ := hrel
    have HALL := hide hall
    clear hall
    have hii : (i : Int) ≤ (ts0.length : Int) := by omega
    have hli : (ts0.length : Int) ≤ 1000 := by omega
    have hsz := hq.size
    obtain ⟨hf1, hf2, hf3⟩ := hq.facts
    have hR1' : w.heap.size < wr.heap.size := by omega
    have hRw : w.heap.size < wr.heap.size := by omega
    have y0' : wr.cell? ⟨w.heap.size, 0, none⟩ = some (.int .i64 0) := (hf1 _ _ hR1).trans y0
    have y1' : wr.cell? ⟨w.heap.size, 1, none⟩ = some (.int .i64 0) := (hf1 _ _ hR1).trans y1
    have y2' : wr.cell? ⟨w.heap.size, 2, none⟩ = some (.string ⟨#[]⟩) := (hf1 _ _ hR1).trans y2
    have z0' : wr.frozen? ⟨w.heap.size, 0, none⟩ = false := (hf2 _ _ hR1).trans z0
    have z1' : wr.frozen? ⟨w.heap.size, 1, none⟩ = false := (hf2 _ _ hR1).trans z1
    have z2' : wr.frozen? ⟨w.heap.size, 2, none⟩ = false := (hf2 _ _ hR1).trans z2
    clear hf1 hf2 hf3
    have hq02 := hq01.trans hq
    by_cases hlt : i < ts0.length
    · have dl1 : decide (i < ts0.length) = true := by simpa using hlt
      have dl2 : decide ((i : Int) < (ts0.length : Int)) = true := by simpa using hlt
      have hlti : (i : Int) < (ts0.length : Int) := by omega
      obtain ⟨b1, o1, k1, a1, t1, rfl, hb1, g1, v1, v2, v3⟩ := (G0.out.up hq).at_ i hlt
      have hbd := HBD.out _ (List.mem_of_getElem? g1)
      dsimp only at hbd
      obtain ⟨ha1, ha2, ha3⟩ := hbd
      have ha4 : (t1.size : Int) ≤ 6000 := by omega
      have G1 := hide g1
      clear g1
      cases e1 : decide (a1 ≤ p)
      · have hn : inG p (k1, a1, t1) = false := by unfold inG; dsimp only; rw [e1]; rfl
        have HS := hide hn
        clear hn
        go_wp2_with fail
        have hxc := ext_cell
        refine wp_region_ext (by kernel_rfl) (by kernel_rfl) ?_
        repeat (go_big_quiet_step ((fail)))
        clear hxc
        refine wpQuiet_nil ?_
        intro wz hwwz
        have hqwz := q_of_ext hwwz
        clear hwwz
        obtain ⟨hcwz, hfwz, hzwz⟩ := hqwz.facts
        try simp at hzwz
        try have hs0wz : w.heap.size < wz.heap.size := by omega
        try have hs1wz : w.heap.size + 1 < wz.heap.size := by omega
        have hqz := hq.trans hqwz
        clear hcwz hfwz v1 v2 v3
        go_wp2_with fail
        go_roundw
        case rel => exact ⟨i + 1, by omega, by go_num, fun j a hj ha => by
          by_cases e : j = i
          · subst e
            rw [G1.out] at ha
            cases ha
            exact HS.out
          · exact HALL.out j a (by omega) ha, hqz⟩
        case measure => simp [intOf] <;> omega
      · cases e2 : decide (p < a1 + (t1.size : Int))
        · have hn : inG p (k1, a1, t1) = false := by unfold inG; dsimp only; rw [e1, e2]; rfl
          have HS := hide hn
          clear hn
          go_wp2_with fail
          have hxc := ext_cell
          refine wp_region_ext (by kernel_rfl) (by kernel_rfl) ?_
          repeat (go_big_quiet_step ((fail)))
          clear hxc
          refine wpQuiet_nil ?_
          intro wz hwwz
          have hqwz := q_of_ext hwwz
          clear hwwz
          obtain ⟨hcwz, hfwz, hzwz⟩ := hqwz.facts
          try simp at hzwz
          try have hs0wz : w.heap.size < wz.heap.size := by omega
          try have hs1wz : w.heap.size + 1 < wz.heap.size := by omega
          have hqz := hq.trans hqwz
          clear hcwz hfwz v1 v2 v3
          go_wp2_with fail
          go_roundw
          case rel => exact ⟨i + 1, by omega, by go_num, fun j a hj ha => by
            by_cases e : j = i
            · subst e
              rw [G1.out] at ha
              cases ha
              exact HS.out
            · exact HALL.out j a (by omega) ha, hqz⟩
          case measure => simp [intOf] <;> omega
        · have hn : inG p (k1, a1, t1) = true := by unfold inG; dsimp only; rw [e1, e2]; rfl
          have hf := find_hit ks p i _ G1.out hn HALL.out
          rw [HF.out] at hf
          subst hf
          clear hn
          go_wp2_with fail
          have hxc := ext_cell
          refine wp_region_ext (by kernel_rfl) (by kernel_rfl) ?_
          repeat (go_big_quiet_step ((fail)))
          clear hxc
          refine wpQuiet_nil ?_
          intro wz hwwz
          have hqwz := q_of_ext hwwz
          clear hwwz
          obtain ⟨hcwz, hfwz, hzwz⟩ := hqwz.facts
          try simp at hzwz
          try have hs0wz : w.heap.size < wz.heap.size := by omega
          try have hs1wz : w.heap.size + 1 < wz.heap.size := by omega
          have hqz := hq.trans hqwz
          have hq0z := hq02.trans hqwz
          have v1z := (hqwz.facts.1 _ _ hb1).trans v1
          have v2z := (hqwz.facts.1 _ _ hb1).trans v2
          have v3z := (hqwz.facts.1 _ _ hb1).trans v3
          have hb1z := Nat.lt_of_lt_of_le hb1 hqwz.size
          have hR1z := Nat.lt_of_lt_of_le hR1' hqwz.size
          have y0z := (hqwz.facts.1 _ _ hR1').trans y0'
          have z0z := (hqwz.facts.2.1 _ _ hR1').trans z0'
          have y1z := (hqwz.facts.1 _ _ hR1').trans y1'
          have z1z := (hqwz.facts.2.1 _ _ hR1').trans z1'
          have y2z := (hqwz.facts.1 _ _ hR1').trans y2'
          have z2z := (hqwz.facts.2.1 _ _ hR1').trans z2'
          clear hcwz hfwz y0' y1' y2' z0' z1' z2' v1 v2 v3 y0 y1 y2 z0 z1 z2
          go_wp2_with fail
          obtain ⟨s0, s1, s2⟩ := set3 wz (w.heap.size) _ _ _ (.int .i64 k1) (.int .i64 a1) (.string t1) y0z y1z y2z
          refine bodyPost_ret (v := .tuple #[.agg #[.int .i64 k1, .int .i64 a1, .string t1], .bool true, .int .i64 0]) (by simp [results, Try.results25, go_sem, s0, s1, s2]) rfl ⟨rfl, ?_⟩
          exact ((Q.set hq0z (by simp) _).set (by simp) _).set (by simp) _
    · have dl1 : decide (i < ts0.length) = false := by simpa using hlt
      have dl2 : decide ((i : Int) < (ts0.length : Int)) = false := by simpa using hlt
      have hf := find_miss ks p (fun j a hj ha => HALL.out j a (by have := HKL.out; omega) ha)
      rw [HF.out] at hf
      subst hf
      go_wp2_with fail
      obtain ⟨s0, s1, s2⟩ := set3 wr (w.heap.size) _ _ _ (.int .i64 0) (.int .i64 0) (.string ⟨#[]⟩) y0' y1' y2'
      refine bodyPost_ret (v := .tuple #[.agg #[.int .i64 0, .int .i64 0, .string ⟨#[]⟩], .bool false, .int .i64 0]) (by simp [results, Try.results25, go_sem, s0, s1, s2]) rfl ⟨rfl, ?_⟩
      exact ((Q.set hq02 (by simp) _).set (by simp) _).set (by simp) _
structure AtS (s : ByteArray) (p : Int) (g : G) (is : Bool) (e : Nat) : Prop where
  pr : ∀ w, Calls Try.prog 24 #[.string s, .int .i64 p] w fun en w' => en = .returned (.tuple #[gV g, .bool is, .int .i64 (e : Nat)]) ∧ Q w w'
  rf : ∀ w, Calls Try.prog 25 #[.string s, .int .i64 p] w fun en w' => en = .returned (.tuple #[gV g, .bool is, .int .i64 (e : Nat)]) ∧ Q w w'
end Go.Proofs.Ytofigpjabamnhaa
