/- The ground of a law: begin. The ground of a law: the walk of begin. A heap that is sure, with a list, then with a map: the acts of known. A heap that is sure, with a map: the acts of known. Conditions: as each theorem says. -/
import Derived.Test.YtdaklffbfadghaaGreatLsU15
namespace Go.Proofs.YtdaklffbfadghaaGreat
open Go.RowKit HP
set_option linter.unusedVariables false
set_option linter.unusedSimpArgs false
/-- what is known of a heap and its ground at the beginning -/
structure Bg (m : HM) (G : Gd) : Prop where
  calls : G.calls = m.calls
  few : m.calls ≤ 4
  others : G.others = stretches m
  used : G.used = used m.live
  most : G.most = 0
  sure : G.sure = true → m.kind = 0 ∧ m.size = 4096 ∧ m.failIn = 0 ∧ m.live = []
def BgP (w : World) (e : Ending) (w' : World) : Prop :=
  (e = .returned (.tuple #[.pointer none, .bool false]) ∧ Q w w') ∨
  ∃ (h : Hp) (G : Gd), e = .returned (.tuple #[G.ptr, .bool true]) ∧ GR w' h G ∧ Inv h.m ∧ Bg h.m G ∧ Q w w' ∧ (∀ b, h.fp b → w.heap.size ≤ b) ∧ w.heap.size ≤ G.blk
/-- a new heap of which something is known -/
def BO (wb : World) (g : Nat) (kd sz : Int) (k : Nat) (m : HM) (W : World) : Prop := Own wb W g m ∧ Inv m ∧ m.calls ≤ k ∧ m.kind = kd ∧ m.size = sz
/-- the same, beside the row of its live blocks -/
def BS (wb : World) (g : Nat) (m : HM) (v : Value) (W : World) : Prop := ∃ h : Hp, h.blk = g ∧ HpR W h ∧ h.mu = 0 ∧ h.m = m ∧ Q wb W ∧ (∀ b, h.fp b → wb.heap.size ≤ b) ∧ LvP (stretches m).length (stretches m) v W
theorem LvP.did {n : Nat} {L : List (Int × Int)} {v : Value} {W W2 : World} {h1 h2 : Hp} (x : LvP n L v W) (H : HpR W h1) (D : Did W h1 W2 h2) : LvP n L v W2 := by
  obtain ⟨A, c, e, hS, hc⟩ := x
  refine ⟨A, c, e, hS.same D.turn.size fun b o ea _ => ?_, fun b o ea => ?_⟩
  · obtain ⟨cs, k, e2⟩ := hc b o ea
    exact D.turn.block b (blk_lt e2) (fp_pair H e2)
  · obtain ⟨cs, k, e2⟩ := hc b o ea
    exact ⟨cs, k, (D.turn.block b (blk_lt e2) (fp_pair H e2)).trans e2⟩
theorem bo_alloc {wb W : World} {g k : Nat} {kd sz : Int} {m : HM} (B : BO wb g kd sz k m W) (hk : k ≤ 1000) (n al : Int) : Calls Tryz.prog 9 #[.pointer (some ⟨g, 0, none⟩), .int .i64 n, .int .i64 al] W fun e w' => ∃ v m', e = .returned v ∧ BO wb g kd sz (k + 1) m' w' := by
  obtain ⟨O, I, hc, e1, e2⟩ := B
  refine (own_alloc O I (by omega) n al).mono ?_
  rintro e w' ⟨he, O'⟩
  refine ⟨_, _, he, O', alloc_inv I _ _, ?_, ?_, ?_⟩
  · by_cases h : (allocM m n al).2.2 = 0
    · obtain ⟨h1, h2, h3, -, h4, h5, h6, -⟩ := alloc_yes I h
      rw [h6]; omega
    · have : (allocM m n al).1.calls ≤ m.calls + 1 := by
        unfold allocM
        split
        · show m.calls ≤ _; omega
        · split
          · exact Int.le_refl _
          · split
            · exact Int.le_refl _
            · exact Int.le_refl _
      omega
  · by_cases h : (allocM m n al).2.2 = 0
    · obtain ⟨h1, h2, h3, -, h4, h5, h6, h7, h8, h9, h10, h11, h12, h13⟩ := alloc_yes I h
      exact h12.trans e1
    · exact (alloc_no h).2.2.trans e1
  · by_cases h : (allocM m n al).2.2 = 0
    · obtain ⟨h1, h2, h3, -, h4, h5, h6, h7, h8, h9, h10, h11, h12, h13⟩ := alloc_yes I h
      exact h9.trans e2
    · exact (alloc_no h).2.1.trans e2
theorem bo_failAt {wb W : World} {g k : Nat} {kd sz : Int} {m : HM} (B : BO wb g kd sz k m W) (fa : Int) : Calls Tryz.prog 29 #[.pointer (some ⟨g, 0, none⟩), .int .i64 fa] W fun e w' => ∃ v m', e = .returned v ∧ BO wb g kd sz k m' w' ∧ (fa = 0 → m'.failIn = 0) := by
  obtain ⟨O, I, hc, e1, e2⟩ := B
  obtain ⟨h, rfl, h2, h3, rfl, h5, h6⟩ := O
  refine (failAt_act h fa W h2 I h3).mono ?_
  rintro e w' ⟨h', he, D, hmu, hm⟩
  have O' := Own.did (h := h) rfl h5 h6 D hmu
  rw [hm] at O'
  refine ⟨_, _, he, ⟨O', failAt_inv I _, ?_, ?_, ?_⟩, fun e0 => ?_⟩
  all_goals (unfold failAtM)
  · split <;> exact hc
  · split <;> exact e1
  · split <;> exact e2
  · rw [if_pos (by omega)]
    exact e0
theorem bo_live {wb W : World} {g k : Nat} {kd sz : Int} {m : HM} (B : BO wb g kd sz k m W) : Calls Tryz.prog 12 #[.pointer (some ⟨g, 0, none⟩)] W fun e w' => ∃ A c, e = .returned (.slice A (stretches m).length c) ∧ BS wb g m (.slice A (stretches m).length c) w' := by
  obtain ⟨O, I, hc, e1, e2⟩ := B
  obtain ⟨h, rfl, h2, h3, rfl, h5, h6⟩ := O
  refine (live_act h W h2 I h3).mono ?_
  rintro e W' ⟨v, h', he, ho, D, hmu, hm⟩
  have O' := Own.did (h := h) rfl h5 h6 D hmu
  have hl : (stretches h.m).length = h.bks.length := by unfold stretches Hp.m; simp
  rw [← hl] at ho
  obtain ⟨A, c, ev, hS⟩ := str_sl ho
  subst ev
  refine ⟨A, c, he, h', D.blk, D.rep, hmu, hm, O'.toQ, fun b hb => ?_, A, c, rfl, hS, fun b o ea => ?_⟩
  · rcases D.fp b hb with e | e
    · exact h6 b e
    · exact Nat.le_trans h5.size e
  · subst ea
    have hob : Value.ownBlock (.slice (some ⟨b, o, none⟩) (stretches h.m).length c) = some b := rfl
    obtain ⟨cs, hc⟩ := own_blk ho hob
    exact ⟨cs, _, hc⟩
theorem BS.act {wb W W' : World} {m : HM} {v : Value} {h h2 : Hp} (h6 : ∀ b, h.fp b → wb.heap.size ≤ b) (h5 : Q wb W) (x : LvP (stretches m).length (stretches m) v W) (H : HpR W h) (D : Did W h W' h2) (hmu : h2.mu = 0) (hm : h2.m = m) : BS wb h.blk m v W' := by
  refine ⟨h2, D.blk, D.rep, hmu, hm, (Own.did (h := h) rfl h5 h6 D hmu).toQ, fun b hb => ?_, x.did H D⟩
  rcases D.fp b hb with e | e
  · exact h6 b e
  · exact Nat.le_trans h5.size e
theorem bs_used {wb W : World} {g : Nat} {m : HM} {v : Value} (B : BS wb g m v W) (I : Inv m) : Calls Tryz.prog 10 #[.pointer (some ⟨g, 0, none⟩)] W fun e w' => e = .returned (.int .i64 (used m.live)) ∧ BS wb g m v w' := by
  obtain ⟨h, rfl, h2, h3, rfl, h5, h6, x⟩ := B
  refine (used_act h W h2 I h3).mono ?_
  rintro e W' ⟨h', he, D, hmu, hm⟩
  exact ⟨he, BS.act h6 h5 x h2 D hmu hm⟩
theorem bs_calls {wb W : World} {g : Nat} {m : HM} {v : Value} (B : BS wb g m v W) (I : Inv m) : Calls Tryz.prog 88 #[.pointer (some ⟨g, 0, none⟩)] W fun e w' => e = .returned (.int .i64 m.calls) ∧ BS wb g m v w' := by
  obtain ⟨h, rfl, h2, h3, rfl, h5, h6, x⟩ := B
  refine (calls_act h W h2 I h3).mono ?_
  rintro e W' ⟨h', he, D, hmu, hm⟩
  exact ⟨he, BS.act h6 h5 x h2 D hmu hm⟩
/-- the ground, made -/
theorem bs_end {w wb W : World} {g k : Nat} {kd sz fa : Int} {m : HM} {A : Option Addr} {c : Nat} (hqb : Q w wb) (B : BS wb g m (.slice A (stretches m).length c) W) (I : Inv m) (hc : m.calls ≤ 4) (e1 : m.kind = kd) (e2 : m.size = sz) (hfa : fa = 0 → m.failIn = 0) (s : Bool) (hs : s = true → kd = 0 ∧ sz = 4096 ∧ (stretches m).length = 0 ∧ fa = 0) :
    BgP w (.returned (.tuple #[.pointer (some ⟨W.heap.size, 0, none⟩), .bool true])) (W.alloc (.cells #[.pointer (some ⟨g, 0, none⟩), .slice A (stretches m).length c, .int .i64 (used m.live), .bool s, .int .i64 m.calls, .int .i64 0] 74)) := by
  obtain ⟨h, rfl, h2, h3, rfl, h5, h6, A', c', ev, hS, hr⟩ := B
  injection ev with ev1 ev2 ev3
  subst ev1
  subst ev3
  obtain ⟨W1, hW1⟩ : ∃ W1, W1 = W.alloc (.cells #[.pointer (some ⟨h.blk, 0, none⟩), .slice A (stretches h.m).length c, .int .i64 (used h.m.live), .bool s, .int .i64 h.m.calls, .int .i64 0] 74) := ⟨_, rfl⟩
  have hB1 : W1.heap[W.heap.size]? = some (.cells #[.pointer (some ⟨h.blk, 0, none⟩), .slice A (stretches h.m).length c, .int .i64 (used h.m.live), .bool s, .int .i64 h.m.calls, .int .i64 0] 74 (0, 0)) := by rw [hW1]; exact heap_alloc_new W _
  have q1 : Q W W1 := by rw [hW1]; exact (Q.refl W).alloc _
  rw [← hW1]
  have q2 := q1
  have hlt : ∀ b, h.fp b → b < W.heap.size := fun b hb => h2.lt b hb
  refine .inr ⟨h, ⟨W.heap.size, A, c, stretches h.m, used h.m.live, s, h.m.calls, 0⟩, rfl, ⟨h2.q q2, h3, ?_, hS.up q2, fun hb => Nat.lt_irrefl _ (hlt _ hb), fun b o e => ?_, ?_⟩, I, ⟨rfl, hc, rfl, rfl, rfl, fun e => ?_⟩, hqb.trans (h5.trans q2), fun b hb => Nat.le_trans hqb.size (h6 b hb), Nat.le_trans hqb.size h5.size⟩
  · exact hB1
  · obtain ⟨cs, k, e2⟩ := hr b o e
    have hl := blk_lt e2
    exact ⟨Nat.lt_of_lt_of_le hl q2.size, fp_pair h2 e2, Nat.ne_of_lt hl⟩
  · unfold stretches
    rw [List.length_map]
    exact I.len
  · obtain ⟨a1, a2, a3, a4⟩ := hs e
    refine ⟨e1.trans a1, e2.trans a2, hfa a4, ?_⟩
    unfold stretches at a3
    rw [List.length_map] at a3
    exact List.eq_nil_of_length_eq_zero a3
end Go.Proofs.YtdaklffbfadghaaGreat

namespace Go.Proofs.YtdaklffbfadghaaGreat
open Go.RowKit HP
set_option linter.unusedVariables false
set_option linter.unusedSimpArgs false
set_option maxHeartbeats 4000000 in
set_option maxRecDepth 100000 in
theorem begin_no (kd sz pc ot fa : Int) (w : World) (hs : shapeB kd sz pc = false) : Calls Tryz.prog 37 #[.agg #[.int .i64 kd, .int .i64 sz, .int .i64 pc, .int .i64 ot, .int .i64 fa]] w (BgP w) := by
  have HN : Hid (∀ W, Calls Tryz.prog 8 #[.int .i64 kd, .int .i64 sz, .int .i64 pc] W fun e w' => e = .returned (.tuple #[.pointer none, .int .i64 1]) ∧ Q W w') := fun W => (new_any kd sz pc W).mono (by
    rintro e w' (⟨-, h2, h3⟩ | ⟨h1, -⟩)
    · exact ⟨h2, h3⟩
    · rw [hs] at h1; cases h1)
  have FIN : Hid (∀ W, Q w W → BgP w (.returned (.tuple #[.pointer none, .bool false])) W) := fun W hq => .inl ⟨rfl, hq⟩
  obtain ⟨PST, hP⟩ : ∃ P, P = BgP w := ⟨_, rfl⟩
  rw [← hP] at FIN ⊢
  clear hP hs
  have q0 := Q.refl w
  go_enter Tryz.func37, Tryz.ntmps37
  go_wp2_with fail
  go_wp2_with (go_at_call 8; refine (HN.out _).mono ?_; rintro e w1 ⟨rfl, hq1⟩; obtain ⟨hc1, hf1, hz1⟩ := hq1.facts; try simp at hz1; try have hs01 : w.heap.size < w1.heap.size := by omega; try have hs11 : w.heap.size + 1 < w1.heap.size := by omega)
  exact FIN.out _ (((Q.refl w).alloc _).trans hq1)
set_option maxHeartbeats 4000000 in
set_option maxRecDepth 100000 in
theorem begin_yes (kd sz pc ot fa : Int) (w : World) (hs : shapeB kd sz pc = true) : Calls Tryz.prog 37 #[.agg #[.int .i64 kd, .int .i64 sz, .int .i64 pc, .int .i64 ot, .int .i64 fa]] w (BgP w) := by
  obtain ⟨wb, hwb⟩ : ∃ wb, wb = w.alloc (.cells #[.int .i64 kd, .int .i64 sz, .int .i64 pc, .int .i64 ot, .int .i64 fa] 23) := ⟨_, rfl⟩
  have HQB : Hid (Q w wb) := by rw [hwb]; exact (Q.refl w).alloc _
  have hrow : wb.heap[w.heap.size]? = some (.cells #[.int .i64 kd, .int .i64 sz, .int .i64 pc, .int .i64 ot, .int .i64 fa] 23 (0, 0)) := by rw [hwb]; exact heap_alloc_new w _
  have hlw := blk_lt hrow
  have HB : Hid (∀ W, Q wb W → W.cell? ⟨w.heap.size, 0, none⟩ = some (.int .i64 kd) ∧ W.cell? ⟨w.heap.size, 1, none⟩ = some (.int .i64 sz) ∧ W.cell? ⟨w.heap.size, 2, none⟩ = some (.int .i64 pc) ∧ W.cell? ⟨w.heap.size, 3, none⟩ = some (.int .i64 ot) ∧ W.cell? ⟨w.heap.size, 4, none⟩ = some (.int .i64 fa)) := fun W hq => by
    have h0 := (hq.below.block _ hlw).trans hrow
    refine ⟨?_, ?_, ?_, ?_, ?_⟩
    all_goals (rw [cell_of_row _ _ _ _ _ _ h0]; rfl)
  have HN : Hid (Calls Tryz.prog 8 #[.int .i64 kd, .int .i64 sz, .int .i64 pc] wb fun e w' => ∃ g, e = .returned (.tuple #[.pointer (some ⟨g, 0, none⟩), .int .i64 0]) ∧ ∃ m, BO wb g kd sz 0 m w') := (own_new hs wb).mono (by
    rintro e w' ⟨g, he, hO⟩
    exact ⟨g, he, _, hO, newM_inv hs, Int.le_refl _, rfl, rfl⟩)
  have HWB := hide hwb
  have FIN : Hid (∀ (W : World) (g k : Nat) (m : HM) (A : Option Addr) (c : Nat), BS wb g m (.slice A (stretches m).length c) W → Inv m → m.calls ≤ 4 → m.kind = kd → m.size = sz → (fa = 0 → m.failIn = 0) → ∀ s : Bool, (s = true → kd = 0 ∧ sz = 4096 ∧ (stretches m).length = 0 ∧ fa = 0) →
      BgP w (.returned (.tuple #[.pointer (some ⟨W.heap.size, 0, none⟩), .bool true])) (W.alloc (.cells #[.pointer (some ⟨g, 0, none⟩), .slice A (stretches m).length c, .int .i64 (used m.live), .bool s, .int .i64 m.calls, .int .i64 0] 74))) := fun W g k m A c B I hc e1 e2 hfa s hs => bs_end (k := k) HQB.out B I hc e1 e2 hfa s hs
  obtain ⟨PST, hP⟩ : ∃ P, P = BgP w := ⟨_, rfl⟩
  rw [← hP] at FIN ⊢
  clear hP hs hrow hlw hwb
  have hc0 := (HB.out wb (Q.refl _))
  rw [HWB.out] at hc0
  obtain ⟨c0, c1, c2, -, -⟩ := hc0
  go_enter Tryz.func37, Tryz.ntmps37
  go_wp2_with fail
  go_wp2_with (go_at_call 8; rw [← HWB.out]; refine HN.out.mono ?_; rintro e w2 ⟨g, rfl, m0, hO⟩; have HO := hide hO; clear hO c0 c1 c2; obtain ⟨c0, c1, c2, c3, c4⟩ := HB.out _ HO.out.1.toQ)
  go_loopw [6] (fun vi wr => ∃ (i : Nat) (m : HM), i ≤ 4 ∧ vi = .int .i64 (i : Int) ∧ BO wb g kd sz i m wr) (fun vi _ => 4 - (intOf vi).toNat)
  case atStart => exact ⟨0, m0, by omega, by go_num, HO.out⟩
  case round =>
    obtain ⟨i, m, hi, rfl, hO⟩ := hrel
    have HO := hide hO
    clear hO c0 c1 c2 c3 c4
    obtain ⟨c0, c1, c2, c3, c4⟩ := HB.out _ HO.out.1.toQ
    by_cases hlt : (i : Int) < ot ∧ i < 4
    · obtain ⟨l1, l2⟩ := hlt
      have d1 : decide ((i : Int) < ot) = true := decide_eq_true l1
      have d2 : decide ((i : Int) < 4) = true := decide_eq_true (by omega)
      clear l1
      go_wp2_with (go_at_call 9; refine (bo_alloc HO.out (by omega) 8 8).mono ?_; rintro e w3 ⟨v, m', rfl, hO3⟩)
      go_roundw
      case rel => exact ⟨i + 1, m', by omega, by go_num, hO3⟩
      case measure => simp [intOf] <;> omega
    · have hd : decide ((i : Int) < ot) = false ∨ (decide ((i : Int) < ot) = true ∧ decide ((i : Int) < 4) = false) := by
        by_cases l1 : (i : Int) < ot
        · exact .inr ⟨decide_eq_true l1, decide_eq_false (by omega)⟩
        · exact .inl (decide_eq_false l1)
      clear hlt
      rcases hd with d1 | ⟨d1, d2⟩
      all_goals
        go_wp2_with (first
          | (go_at_call 29; refine (bo_failAt HO.out fa).mono ?_; rintro e w3 ⟨v, m3, rfl, hO3, hfa⟩; have HO3 := hide hO3; have HFA := hide hfa; clear hO3 hfa c0 c1 c2 c3 c4)
          | (go_at_call 12; refine (bo_live HO3.out).mono ?_; rintro e w4 ⟨A, c, rfl, hB⟩; have HB4 := hide hB; clear hB)
          | (go_at_call 10; refine (bs_used HB4.out HO3.out.2.1).mono ?_; rintro e w5 ⟨rfl, hB⟩; have HB5 := hide hB; clear hB)
          | fail)
        have hb : (kd == 0) = false ∨ ((kd == 0) = true ∧ (sz == 4096) = false) ∨ ((kd == 0) = true ∧ (sz == 4096) = true ∧ (((stretches m3).length : Int) == 0) = false) ∨ ((kd == 0) = true ∧ (sz == 4096) = true ∧ (((stretches m3).length : Int) == 0) = true ∧ (fa == 0) = false) ∨ ((kd == 0) = true ∧ (sz == 4096) = true ∧ (((stretches m3).length : Int) == 0) = true ∧ (fa == 0) = true) := by
          cases kd == 0 <;> cases sz == 4096 <;> cases ((stretches m3).length : Int) == 0 <;> cases fa == 0 <;> simp
        have HFN : Hid (∀ (W : World), BS wb g m3 (.slice A (stretches m3).length c) W → ∀ s : Bool, (s = true → (kd == 0) = true ∧ (sz == 4096) = true ∧ (((stretches m3).length : Int) == 0) = true ∧ (fa == 0) = true) → PST (.returned (.tuple #[.pointer (some ⟨W.heap.size, 0, none⟩), .bool true])) (W.alloc (.cells #[.pointer (some ⟨g, 0, none⟩), .slice A (stretches m3).length c, .int .i64 (used m3.live), .bool s, .int .i64 m3.calls, .int .i64 0] 74))) := fun W B s hs =>
          FIN.out W g i m3 A c B HO3.out.2.1 (by have := HO3.out.2.2.1; omega) HO3.out.2.2.2.1 HO3.out.2.2.2.2 HFA.out s fun e => by
            obtain ⟨a1, a2, a3, a4⟩ := hs e
            exact ⟨by simpa using a1, by simpa using a2, by simpa using a3, by simpa using a4⟩
        have HBQ : Hid (∀ W, BS wb g m3 (.slice A (stretches m3).length c) W → ∀ o, (W.alloc o).cell? ⟨w.heap.size, 0, none⟩ = some (.int .i64 kd) ∧ (W.alloc o).cell? ⟨w.heap.size, 1, none⟩ = some (.int .i64 sz) ∧ (W.alloc o).cell? ⟨w.heap.size, 4, none⟩ = some (.int .i64 fa)) := fun W ⟨h, _, _, _, _, hq, _⟩ o => by
          have := HB.out (W.alloc o) (hq.trans ((Q.refl W).alloc o))
          exact ⟨this.1, this.2.1, this.2.2.2.2⟩
        have HCL : Hid (Calls Tryz.prog 88 #[.pointer (some ⟨g, 0, none⟩)] w5 fun e w' => e = .returned (.int .i64 m3.calls) ∧ BS wb g m3 (.slice A (stretches m3).length c) w') := hide (bs_calls HB5.out HO3.out.2.1)
        clear HO3 HFA HO FIN HB4 HB5 hi
        obtain ⟨cl, ecl⟩ : ∃ cl : Int, cl = m3.calls := ⟨_, rfl⟩
        obtain ⟨us, eus⟩ : ∃ us : Int, us = used m3.live := ⟨_, rfl⟩
        obtain ⟨n, en⟩ : ∃ n, n = (stretches m3).length := ⟨_, rfl⟩
        try rw [← ecl] at HFN HCL
        try rw [← eus] at HFN ⊢
        rw [← en] at HFN HCL HBQ hb ⊢
        clear ecl eus en
        rcases hb with b1 | ⟨b1, b2⟩ | ⟨b1, b2, b3⟩ | ⟨b1, b2, b3, b4⟩ | ⟨b1, b2, b3, b4⟩
        all_goals
          go_wp2_with (go_at_call 88; refine HCL.out.mono ?_; rintro e w6 ⟨rfl, hB⟩; have HB6 := hide hB; clear hB; have hbq := HBQ.out _ HB6.out; obtain ⟨c0, c1, c4⟩ : (∀ o, (w6.alloc o).cell? ⟨w.heap.size, 0, none⟩ = some (.int .i64 kd)) ∧ (∀ o, (w6.alloc o).cell? ⟨w.heap.size, 1, none⟩ = some (.int .i64 sz)) ∧ (∀ o, (w6.alloc o).cell? ⟨w.heap.size, 4, none⟩ = some (.int .i64 fa)) := ⟨fun o => (hbq o).1, fun o => (hbq o).2.1, fun o => (hbq o).2.2⟩; clear hbq)
          first
            | exact HFN.out _ HB6.out false (fun e => by cases e)
            | exact HFN.out _ HB6.out true (fun _ => ⟨b1, b2, b3, b4⟩)
theorem begin_any (kd sz pc ot fa : Int) (w : World) : Calls Tryz.prog 37 #[.agg #[.int .i64 kd, .int .i64 sz, .int .i64 pc, .int .i64 ot, .int .i64 fa]] w (BgP w) := by
  cases hs : shapeB kd sz pc with
  | false => exact begin_no _ _ _ _ _ w hs
  | true => exact begin_yes _ _ _ _ _ w hs
end Go.Proofs.YtdaklffbfadghaaGreat

namespace Go.Proofs.YtdaklffbfadghaaGreat
open Go.RowKit HP
set_option linter.unusedVariables false
set_option linter.unusedSimpArgs false
/-- of the world w, all is new: a heap at hb, a list at lb that holds xs; nothing is refused -/
def KL (w W : World) (hb lb : Nat) (xs : List Int) (c : Int) : Prop := ∃ (h : Hp) (r : Rw), LR W h r ∧ LstR h.m r xs ∧ Low h.m 1 r.ps ∧ h.blk = hb ∧ r.blk = lb ∧ h.m.calls ≤ c ∧ Q w W ∧ ∀ b, h.fp b ∨ r.fp b → w.heap.size ≤ b
section
variable {w W W2 : World} {hb lb : Nat} {xs : List Int} {c : Int}
theorem KL.q (K : KL w W hb lb xs c) (hq : Q W W2) : KL w W2 hb lb xs c := by
  obtain ⟨h, r, L, S, o, e1, e2, hc, h5, hn⟩ := K
  exact ⟨h, r, ((LDid.refl L).q hq).lr, S, o, e1, e2, hc, h5.trans hq, hn⟩
theorem KL.toQ (K : KL w W hb lb xs c) : Q w W := by
  obtain ⟨h, r, L, S, o, e1, e2, hc, h5, hn⟩ := K
  exact h5
theorem new_did {h h2 : Hp} {r r2 : Rw} (D : LDid W h r W2 h2 r2) (h5 : Q w W) (hn : ∀ b, h.fp b ∨ r.fp b → w.heap.size ≤ b) : Q w W2 ∧ ∀ b, h2.fp b ∨ r2.fp b → w.heap.size ≤ b := by
  refine ⟨Turn.q_of h5 D.turn hn, fun b hb => ?_⟩
  rcases hb with hb | hb
  · rcases D.hf b hb with e | e
    · exact hn b (.inl e)
    · exact Nat.le_trans h5.size e
  · rcases D.rf b hb with e | e
    · exact hn b (.inr e)
    · exact Nat.le_trans h5.size e
theorem kl_new (m0 : HM) {g : Nat} (O : Own w W g m0) (I : Inv m0) (hc : m0.calls ≤ c) (hL : ∀ T, Low m0 T []) : Calls Tryz.prog 13 #[.pointer (some ⟨g, 0, none⟩)] W fun e w' => ∃ lb, e = .returned (.tuple #[.pointer (some ⟨lb, 0, none⟩), .int .i64 0]) ∧ KL w w' g lb [] c := by
  obtain ⟨h, rfl, h2, h3, rfl, h5, h6⟩ := O
  refine (newList_any h2 h3).mono ?_
  rintro e w' ⟨he, hq, L⟩
  refine ⟨_, he, h, _, L, newList_r _ I _, hL 1, rfl, rfl, hc, h5.trans hq, fun b hb => ?_⟩
  rcases hb with hb | hb | hb
  · exact h6 b hb
  · subst hb
    exact h5.size
  · cases hb
theorem kl_ins_of {h : Hp} {r : Rw} {i n err : Int} {m' : HM} {r2 : Rw} (L : LR W h r) (S : LstR h.m r xs) (o : Low h.m 1 r.ps) (e1 : h.blk = hb) (e2 : r.blk = lb) (hc : h.m.calls ≤ c) (h5 : Q w W) (hn : ∀ b, h.fp b ∨ r.fp b → w.heap.size ≤ b) (X : LS W h r W2 m' r2) (hI : InsO h.m m' r r2 xs i n err) (hf : fitsB n = true) (hi : 0 ≤ i ∧ i ≤ (xs.length : Int)) (hl : xs.length < 16) : err = 0 ∧ KL w W2 hb lb (insAt xs i.toNat [n]) (c + 1) := by
  rcases hI with ⟨f, -⟩ | ⟨-, f, -⟩ | ⟨-, -, ok, e, S2, hI⟩
  · rw [hf] at f; cases f
  · exact absurd hi f
  · obtain ⟨o1, o2⟩ := hI.low _ o
    have hok := o2 (by rw [one_len]; exact hl)
    subst hok
    obtain ⟨h2, D, em⟩ := X
    obtain ⟨q2, n2⟩ := new_did D h5 hn
    have hcc := hI.calls
    refine ⟨e, h2, r2, D.lr, by rw [em]; exact S2, by rw [em]; exact o1, D.hb.trans e1, D.rb.trans e2, by rw [em]; omega, q2, n2⟩
theorem kl_insert (K : KL w W hb lb xs c) (hc : c < 1000000) (i n : Int) (hf : fitsB n = true) (hi : 0 ≤ i ∧ i ≤ (xs.length : Int)) (hl : xs.length < 16) : Calls Tryz.prog 46 #[.pointer (some ⟨lb, 0, none⟩), .int .i64 i, .int .i64 n] W fun e w' => e = .returned (.int .i64 0) ∧ KL w w' hb lb (insAt xs i.toNat [n]) (c + 1) := by
  obtain ⟨h, r, L, S, o, e1, e2, hcc, h5, hn⟩ := K
  have hcx : h.m.calls = h.calls := rfl
  have := insertL_any L S (by omega) i n
  unfold Rw.ptr at this
  rw [e2] at this
  refine this.mono ?_
  rintro e w' ⟨err, m', r2, he, X, hI, -⟩
  obtain ⟨k1, k2⟩ := kl_ins_of L S o e1 e2 hcc h5 hn X hI hf hi hl
  exact ⟨by rw [he, k1], k2⟩
theorem kl_add (K : KL w W hb lb xs c) (hc : c < 1000000) (n : Int) (hf : fitsB n = true) (hl : xs.length < 16) : Calls Tryz.prog 17 #[.pointer (some ⟨lb, 0, none⟩), .int .i64 n] W fun e w' => e = .returned (.int .i64 0) ∧ KL w w' hb lb (insAt xs xs.length [n]) (c + 1) := by
  obtain ⟨h, r, L, S, o, e1, e2, hcc, h5, hn⟩ := K
  have hcx : h.m.calls = h.calls := rfl
  have := addL_any L S (by omega) n
  unfold Rw.ptr at this
  rw [e2] at this
  refine this.mono ?_
  rintro e w' ⟨m', r2, X, err, he, hI, -⟩
  obtain ⟨k1, k2⟩ := kl_ins_of L S o e1 e2 hcc h5 hn X hI hf ⟨by omega, Int.le_refl _⟩ hl
  rw [Int.toNat_natCast] at k2
  exact ⟨by rw [he, k1], k2⟩
/-- the same, beside the row v -/
def KA (w W : World) (hb : Nat) (xs : List Int) (c : Int) (v : Value) : Prop := ∃ (h : Hp) (r : Rw), LR W h r ∧ LstR h.m r xs ∧ Low h.m 1 r.ps ∧ h.blk = hb ∧ h.m.calls ≤ c ∧ Q w W ∧ (∀ b, h.fp b ∨ r.fp b → w.heap.size ≤ b) ∧ W.ownsRow w.heap.size 3 1 v xs.length (intsV xs) ∧ ∀ g, v.ownBlock = some g → ¬ h.fp g
theorem kl_all (K : KL w W hb lb xs c) : Calls Tryz.prog 52 #[.pointer (some ⟨lb, 0, none⟩)] W fun e w' => ∃ A cp, e = .returned (.slice A xs.length cp) ∧ KA w w' hb xs c (.slice A xs.length cp) := by
  obtain ⟨h, r, L, S, o, e1, e2, hcc, h5, hn⟩ := K
  have := allL_any L S
  unfold Rw.ptr at this
  rw [e2] at this
  refine this.mono ?_
  rintro e w' ⟨m', r2, -, rfl, rfl, v, he, ho, ⟨h2, D, em, hv⟩⟩
  obtain ⟨q2, n2⟩ := new_did D h5 hn
  obtain ⟨A, cp, ev, -⟩ := own_form ho
  subst ev
  exact ⟨A, cp, he, h2, _, D.lr, by rw [em]; exact S, by rw [em]; exact o, D.hb.trans e1, by rw [em]; exact hcc, q2, n2, own_low ho h5.size, fun g hg => (hv g hg).1⟩
end
end Go.Proofs.YtdaklffbfadghaaGreat

namespace Go.Proofs.YtdaklffbfadghaaGreat
open Go.RowKit HP Go.Maps
set_option linter.unusedVariables false
set_option linter.unusedSimpArgs false
/-- of the world w, all is new: a heap, a map at lb that holds kv; nothing is refused; a row v of numbers beside them -/
def KM (w W : World) (lb : Nat) (kv : List (Int × Int)) (c : Int) (v : Value) (ys : List Int) : Prop := ∃ (h : Hp) (r : Rw) (mb n d : Nat) (D : DM), LR W h r ∧ MapR h.m r kv ∧ World.keeps W mb n D ∧ (¬ h.fp mb ∧ ¬ r.fp mb) ∧ r.more = [.map (some mb)] ∧ Wh D (keysOf kv) ∧ Low h.m 2 r.ps d ∧ r.blk = lb ∧ h.m.calls ≤ c ∧ (n : Int) ≤ c ∧ Q w W ∧ (∀ b, h.fp b ∨ r.fp b ∨ b = mb → w.heap.size ≤ b) ∧ W.ownsRow w.heap.size 3 1 v ys.length (intsV ys) ∧ ∀ g, v.ownBlock = some g → ¬ h.fp g ∧ ¬ r.fp g ∧ g ≠ mb
section
variable {w W W2 : World} {hb lb : Nat} {xs ys : List Int} {kv : List (Int × Int)} {c : Int} {v : Value}
theorem KM.toQ (K : KM w W lb kv c v ys) : Q w W := by
  obtain ⟨h, r, mb, n, d, D, L, S, o, ha, hmo, hW, hl, e2, hcc, hnn, h5, hn, ho, hv⟩ := K
  exact h5
theorem KM.own (K : KM w W lb kv c v ys) : W.ownsRow w.heap.size 3 1 v ys.length (intsV ys) := by
  obtain ⟨h, r, mb, n, d, D, L, S, o, ha, hmo, hW, hl, e2, hcc, hnn, h5, hn, ho, hv⟩ := K
  exact ho
theorem km_step {h h2 : Hp} {r r2 : Rw} {mb n2 : Nat} {m' : HM} {D2 : DM} (X : MS W h r mb W2 m' r2 n2 D2 h2) (h5 : Q w W) (hn : ∀ b, h.fp b ∨ r.fp b ∨ b = mb → w.heap.size ≤ b) (ho : W.ownsRow w.heap.size 3 1 v ys.length (intsV ys)) (hv : ∀ g, v.ownBlock = some g → ¬ h.fp g ∧ ¬ r.fp g ∧ g ≠ mb) :
    Q w W2 ∧ (∀ b, h2.fp b ∨ r2.fp b ∨ b = mb → w.heap.size ≤ b) ∧ W2.ownsRow w.heap.size 3 1 v ys.length (intsV ys) ∧ ∀ g, v.ownBlock = some g → ¬ h2.fp g ∧ ¬ r2.fp g ∧ g ≠ mb := by
  refine ⟨Turn.q_of h5 X.turn hn, fun b hb => ?_, own_same ho fun g hg => ?_, fun g hg => ?_⟩
  · rcases hb with hb | hb | hb
    · rcases X.hf b hb with e | e
      · exact hn b (.inl e)
      · exact Nat.le_trans h5.size e
    · rcases X.rf b hb with e | e
      · exact hn b (.inr (.inl e))
      · exact Nat.le_trans h5.size e
    · exact hn b (.inr (.inr hb))
  · obtain ⟨a1, a2, a3⟩ := hv g hg
    exact X.turn.block g (ho.lt g hg).2 fun e => e.elim a1 fun e => e.elim a2 a3
  · obtain ⟨a1, a2, a3⟩ := hv g hg
    have hlt := (ho.lt g hg).2
    refine ⟨fun e => ?_, fun e => ?_, a3⟩
    · rcases X.hf g e with e | e
      · exact a1 e
      · omega
    · rcases X.rf g e with e | e
      · exact a2 e
      · omega
theorem km_new (K : KA w W hb xs c v) (hx : xs.length ≤ 16) (hc : 0 ≤ c) : Calls Tryz.prog 14 #[.pointer (some ⟨hb, 0, none⟩)] W fun e w' => ∃ mb, e = .returned (.tuple #[.pointer (some ⟨mb, 0, none⟩), .int .i64 0]) ∧ KM w w' mb [] c v xs := by
  obtain ⟨h, r, L, S, o, rfl, hcc, h5, hn, ho, hv⟩ := K
  refine (newMap_any L.heap L.mu).mono ?_
  rintro e w' ⟨he, hq, L2, hk⟩
  have hpl := S.kp.pcs.len
  rw [one_len] at hpl
  refine ⟨_, he, h, _, W.heap.size, 0, 4 * 1 * r.ps.length, _, L2, newMap_r _ S.inv _ _, hk, ⟨fun e => Nat.lt_irrefl _ (L.heap.lt _ e), fun e => ?_⟩, rfl, Wh.nil, o.other S.kp.pcs S.inv (by omega) (by omega), rfl, hcc, by simpa using hc, h5.trans hq, fun b hb => ?_, own_same ho fun g hg => hq.below.block g (ho.lt g hg).2, fun g hg => ?_⟩
  · rcases e with e | e
    · have e : W.heap.size = W.heap.size + 1 := e
      omega
    · cases e
  · rcases hb with hb | (hb | hb) | hb
    · exact hn b (.inl hb)
    · have hb : b = W.heap.size + 1 := hb
      have := h5.size
      omega
    · cases hb
    · rw [hb]
      exact h5.size
  · have hlt := (ho.lt g hg).2
    refine ⟨hv g hg, fun e => ?_, Nat.ne_of_lt hlt⟩
    rcases e with e | e
    · have e : g = W.heap.size + 1 := e
      omega
    · cases e
theorem km_put (K : KM w W lb kv c v ys) (hc : c < 900000) (k u : Int) (hf : fits2 (k, u) = true) (hi : k ∉ keysOf kv) (hl : kv.length < 16) : Calls Tryz.prog 21 #[.pointer (some ⟨lb, 0, none⟩), .int .i64 k, .int .i64 u] W fun e w' => ∃ z, e = .returned z ∧ KM w w' lb (kv ++ [(k, u)]) (c + 1) v ys := by
  obtain ⟨h, r, mb, n, d, D, L, S, o, ha, hmo, hW, hlo, e2, hcc, hnn, h5, hn, ho, hv⟩ := K
  have hcx : h.m.calls = h.calls := rfl
  have := putM_new L S (MS.start L o ha) hmo hW (by omega) (by omega) k u hf hi
  unfold Rw.ptr at this
  rw [e2] at this
  refine this.mono ?_
  rintro e w' ⟨ok, m', r2, n2, D2, h2, he, X, hn2, hW2, hm2, hP⟩
  rcases hP with ⟨f, -⟩ | ⟨-, ⟨i, hi2, -⟩, -⟩ | ⟨-, -, -, -, ok2, -, hkv, S2, hI⟩
  · rw [hf] at f; cases f
  · exact absurd (List.mem_of_getElem? (keys_at hi2)) hi
  · obtain ⟨o1, o2⟩ := hI.low d hlo
    have hok2 := o2 (by rw [two_len]; exact hl)
    subst hok2
    have hkv : (if ok then kv ++ [(k, u)] else kv) = kv ++ [(k, u)] := hkv
    rw [hkv] at S2 hW2
    obtain ⟨q2, a1, a2, a3⟩ := km_step X h5 hn ho hv
    have hcc2 := hI.calls
    have em := X.hm
    refine ⟨_, he, h2, r2, mb, n2, d, D2, X.lr, by rw [em]; exact S2, X.own, X.ap, hm2.trans hmo, hW2, by rw [em]; exact o1, X.rb.trans e2, by rw [em]; omega, by omega, q2, a1, a2, a3⟩
theorem km_del (K : KM w W lb kv c v ys) (k u : Int) (hf : fitsB k = true) (i : Nat) (hi : kv[i]? = some (k, u)) : Calls Tryz.prog 23 #[.pointer (some ⟨lb, 0, none⟩), .int .i64 k] W fun e w' => ∃ z, e = .returned z ∧ KM w w' lb (delAt kv i 1) c v ys := by
  obtain ⟨h, r, mb, n, d, D, L, S, o, ha, hmo, hW, hlo, e2, hcc, hnn, h5, hn, ho, hv⟩ := K
  have := delM_found L S (MS.start L o ha) hmo hW k hf i u hi
  unfold Rw.ptr at this
  rw [e2] at this
  refine this.mono ?_
  rintro e w' ⟨he, m', r2, D2, h2, X, hW2, hm2, hP⟩
  rcases hP with ⟨f, -⟩ | ⟨-, f, -⟩ | ⟨-, -, -, j, hj, hkv, S2, R⟩
  · rw [hf] at f; cases f
  · exact absurd (List.mem_of_getElem? (keys_at hi)) f
  · obtain ⟨q2, a1, a2, a3⟩ := km_step X h5 hn ho hv
    have em := X.hm
    exact ⟨_, he, h2, r2, mb, n, d, D2, X.lr, by rw [em]; exact S2, X.own, X.ap, hm2.trans hmo, hW2, by rw [em]; exact R.low d hlo, X.rb.trans e2, by rw [em, R.calls]; exact hcc, hnn, q2, a1, a2, a3⟩
theorem km_keys (K : KM w W lb kv c v ys) : Calls Tryz.prog 34 #[.pointer (some ⟨lb, 0, none⟩)] W fun e w' => ∃ A cp, e = .returned (.slice A kv.length cp) ∧ w'.ownsRow W.heap.size 3 1 (.slice A kv.length cp) kv.length (intsV (keysOf kv)) ∧ KM w w' lb kv c v ys := by
  obtain ⟨h, r, mb, n, d, D, L, S, o, ha, hmo, hW, hlo, e2, hcc, hnn, h5, hn, ho, hv⟩ := K
  have := keysM_any L S (MS.start L o ha) hmo
  unfold Rw.ptr at this
  rw [e2] at this
  refine this.mono ?_
  rintro e w' ⟨v2, he, ho2, h2, X⟩
  obtain ⟨A, cp, ev, -⟩ := own_form ho2
  subst ev
  obtain ⟨q2, a1, a2, a3⟩ := km_step X h5 hn ho hv
  have em := X.hm
  exact ⟨A, cp, he, ho2, h2, r, mb, n, d, D, X.lr, by rw [em]; exact S, X.own, X.ap, hmo, hW, by rw [em]; exact hlo, e2, by rw [em]; exact hcc, hnn, q2, a1, a2, a3⟩
end
end Go.Proofs.YtdaklffbfadghaaGreat
