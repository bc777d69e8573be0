/- What is done to one of two heaps. Conditions: the heaps read so, are unlocked and apart, their numbers are within bounds. -/
import Derived.Test.YtegpkcbmgjoicaaGreatHrD
namespace Go.Proofs.YtegpkcbmgjoicaaGreat
open Go.RowKit HP
set_option linter.unusedVariables false
/-- rows of stretches are as they were -/
def Keep (w w' : World) : Prop := ∀ (b : Nat) (cs : Array Value), w.heap[b]? = some (.cells cs 88 (0, 0)) → w'.heap[b]? = some (.cells cs 88 (0, 0))
theorem Keep.trans {a b c : World} (h : Keep a b) (k : Keep b c) : Keep a c := fun i cs e => k i cs (h i cs e)
theorem Keep.q {a b : World} (h : Q a b) : Keep a b := fun i cs e => (h.below.block i (blk_lt e)).trans e
theorem HpR.no_str {w : World} {h : Hp} (H : HpR w h) {b : Nat} {cs : Array Value} (e : w.heap[b]? = some (.cells cs 88 (0, 0))) : ¬ h.fp b := by
  intro hb
  rcases hb with rfl | hb | ⟨x, hx, rfl⟩ | ⟨hk, rfl⟩
  · exact ty_ne e H.cells (by decide) rfl
  · obtain ⟨cs', e'⟩ := own_blk H.live hb
    exact ty_ne e e' (by decide) rfl
  · obtain ⟨cs', e'⟩ := own_blk (H.rows x hx) x.own
    exact ty_ne e e' (by decide) rfl
  · rcases hk with hk | hk
    · exact ty_ne e (H.w1 hk) (by decide) rfl
    · exact ty_ne e (H.w2 hk) (by decide) rfl
theorem Did.keep {w w' : World} {h h' : Hp} (H : HpR w h) (D : Did w h w' h') : Keep w w' := fun b cs e => (D.turn.block b (blk_lt e) (H.no_str e)).trans e
theorem Keep.own {w w' : World} {B s : Nat} {v : Value} {n : Nat} {xs : List Value} (k : Keep w w') (h : w.ownsRow B 88 s v n xs) : w'.ownsRow B 88 s v n xs := own_same h fun g hg => by
  obtain ⟨cs, e⟩ := own_blk h hg
  rw [k g cs e, e]
section
variable {w0 w : World} {g1 g2 : Nat} {m1 m2 : HM}
theorem own2_failAt (O : Own2 w0 w g1 m1 g2 m2) (I : Inv m1) (k : Int) :
    Calls Tryz.prog 20 #[.pointer (some ⟨g1, 0, none⟩), .int .i64 k] w fun e w' => e = .returned (.int .i64 (failAtM m1 k).2) ∧ Own2 w0 w' g1 ((failAtM m1 k).1) g2 m2 ∧ Keep w w' := by
  obtain ⟨h1, h2, rfl, rfl, r1, r2, u1, u2, rfl, rfl, hq, f1, f2, hd⟩ := O
  refine (failAt_act h1 k w r1 I u1).mono ?_
  rintro e w' ⟨h', he, D, hmu, hm⟩
  have O' := Own2.did r2 u2 hq f1 f2 hd D hmu
  rw [hm] at O'
  exact ⟨he, O', D.keep r1⟩
theorem own2_act (O : Own2 w0 w g1 m1 g2 m2) (I : Inv m1) (hc : m1.calls < 1000000000) (op a b : Int) (ha : -9223372036854775808 ≤ a ∧ a ≤ 9223372036854775807) :
    Calls Tryz.prog 9 #[.pointer (some ⟨g1, 0, none⟩), .agg #[.int .i64 op, .int .i64 a, .int .i64 b]] w fun e w' => e = .returned (.tuple #[.int .i64 (actM m1 op a b).2.1, .int .i64 (actM m1 op a b).2.2]) ∧ Own2 w0 w' g1 ((actM m1 op a b).1) g2 m2 ∧ Keep w w' := by
  obtain ⟨h1, h2, rfl, rfl, r1, r2, u1, u2, rfl, rfl, hq, f1, f2, hd⟩ := O
  refine (act_any h1 op a b w r1 I u1 hc ha.1 ha.2).mono ?_
  rintro e w' ⟨h', he, D, hmu, hm⟩
  have O' := Own2.did r2 u2 hq f1 f2 hd D hmu
  rw [hm] at O'
  exact ⟨he, O', D.keep r1⟩
theorem own2_used (O : Own2 w0 w g1 m1 g2 m2) (I : Inv m1)  :
    Calls Tryz.prog 31 #[.pointer (some ⟨g1, 0, none⟩)] w fun e w' => e = .returned (.int .i64 (used m1.live)) ∧ Own2 w0 w' g1 (m1) g2 m2 ∧ Keep w w' := by
  obtain ⟨h1, h2, rfl, rfl, r1, r2, u1, u2, rfl, rfl, hq, f1, f2, hd⟩ := O
  refine (used_act h1 w r1 I u1).mono ?_
  rintro e w' ⟨h', he, D, hmu, hm⟩
  have O' := Own2.did r2 u2 hq f1 f2 hd D hmu
  rw [hm] at O'
  exact ⟨he, O', D.keep r1⟩
theorem own2_peak (O : Own2 w0 w g1 m1 g2 m2) (I : Inv m1)  :
    Calls Tryz.prog 33 #[.pointer (some ⟨g1, 0, none⟩)] w fun e w' => e = .returned (.int .i64 m1.peak) ∧ Own2 w0 w' g1 (m1) g2 m2 ∧ Keep w w' := by
  obtain ⟨h1, h2, rfl, rfl, r1, r2, u1, u2, rfl, rfl, hq, f1, f2, hd⟩ := O
  refine (peak_act h1 w r1 I u1).mono ?_
  rintro e w' ⟨h', he, D, hmu, hm⟩
  have O' := Own2.did r2 u2 hq f1 f2 hd D hmu
  rw [hm] at O'
  exact ⟨he, O', D.keep r1⟩
theorem own2_calls (O : Own2 w0 w g1 m1 g2 m2) (I : Inv m1)  :
    Calls Tryz.prog 34 #[.pointer (some ⟨g1, 0, none⟩)] w fun e w' => e = .returned (.int .i64 m1.calls) ∧ Own2 w0 w' g1 (m1) g2 m2 ∧ Keep w w' := by
  obtain ⟨h1, h2, rfl, rfl, r1, r2, u1, u2, rfl, rfl, hq, f1, f2, hd⟩ := O
  refine (calls_act h1 w r1 I u1).mono ?_
  rintro e w' ⟨h', he, D, hmu, hm⟩
  have O' := Own2.did r2 u2 hq f1 f2 hd D hmu
  rw [hm] at O'
  exact ⟨he, O', D.keep r1⟩
theorem own2_live (O : Own2 w0 w g1 m1 g2 m2) (I : Inv m1) :
    Calls Tryz.prog 30 #[.pointer (some ⟨g1, 0, none⟩)] w fun e w' => ∃ v, e = .returned v ∧ w'.ownsRow w.heap.size 88 2 v (stretches m1).length ((stretches m1).flatMap encP) ∧ Own2 w0 w' g1 m1 g2 m2 ∧ Keep w w' := by
  obtain ⟨h1, h2, rfl, rfl, r1, r2, u1, u2, rfl, rfl, hq, f1, f2, hd⟩ := O
  refine (live_act h1 w r1 I u1).mono ?_
  rintro e w' ⟨v, h', rfl, ho, D, hmu, hm⟩
  have O' := Own2.did r2 u2 hq f1 f2 hd D hmu
  rw [hm] at O'
  have hl : (stretches h1.m).length = h1.bks.length := by unfold stretches Hp.m; simp
  rw [← hl] at ho
  exact ⟨v, rfl, ho, O', D.keep r1⟩
end
theorem str_sl {w : World} {B : Nat} {v : Value} {l : List (Int × Int)} (h : w.ownsRow B 88 2 v l.length (l.flatMap encP)) : ∃ A c, v = .slice A l.length c ∧ Sl 2 encP w A l.length c l := by
  obtain ⟨A, c, rfl, -⟩ := own_form h
  exact ⟨A, c, rfl, Sl.own (own_low h (Nat.zero_le _)) (fun _ => rfl) (by decide)⟩
theorem equalIn_int' (w : World) (d : Nat) (a b : Int) : (Op.equalIn (d + 1) 3 (.int .i64 a) (.int .i64 b)).run Tryz.prog w = .ok (a == b) w :=
  run_equalIn_int w d _ _ _ a b Tryz.underlying3
theorem equalIn_pair (w : World) (d : Nat) (a b : Int) : (Op.equalIn (d + 1 + 1) 88 (.agg #[.int .i64 a, .int .i64 b]) (.agg #[.int .i64 a, .int .i64 b])).run Tryz.prog w = .ok true w := by
  have hs : (sizeOf 3).run Tryz.prog w = .ok 1 w := by kernel_rfl
  have hp0 : (part 3 #[.int .i64 a, .int .i64 b] 0).run Tryz.prog w = .ok (.int .i64 a) w := by kernel_rfl
  have hp1 : (part 3 #[.int .i64 a, .int .i64 b] 1).run Tryz.prog w = .ok (.int .i64 b) w := by kernel_rfl
  have hq := equalIn_int' w d
  have hr : (List.range' 0 2 1) = [0, 1] := rfl
  unfold Op.equalIn
  simp [Sem.run_bind, run_underlying Tryz.underlying88, hs, Result.andThen, hp0, hp1, hq, hr]
theorem neq_pair (w : World) (a b : Int) : (binOp .neq 88 (.agg #[.int .i64 a, .int .i64 b]) (.agg #[.int .i64 a, .int .i64 b])).run Tryz.prog w = .ok (.bool false) w := by
  rw [run_neq_struct]
  rw [equalIn_pair w 9998 a b]
  rfl
/-! what a call that fails turns -/
theorem fail_alloc (m : HM) : allocM { m with failIn := 1 } 1 1 = (countM { m with failIn := 1 }, 0, 3) := by
  unfold allocM
  rw [if_neg (by simp [sizeB, show alignB 1 = true from rfl]), if_pos (.inl rfl)]
theorem act_error {m : HM} {op a b : Int} (h0 : ¬ op = 0) (h2 : ¬ op = 2) (he : ¬ (actM m op a b).2.2 = 0) : (actM m op a b).1 = m := by
  unfold actM at he ⊢
  rw [if_neg h0] at he ⊢
  split
  · rename_i h1
    rw [if_pos h1] at he
    unfold freeM at he ⊢
    split
    · rfl
    · rename_i hh
      rw [if_neg hh] at he
      exact absurd rfl he
  · rename_i h1
    rw [if_neg h1, if_neg h2] at he
    try rw [if_neg h2]
    split
    · rename_i h3
      rw [if_pos h3] at he
      unfold resetM at he ⊢
      split
      · rename_i hh
        rw [if_pos hh] at he
        exact absurd rfl he
      · rfl
    · rename_i h3
      rw [if_neg h3] at he
      split
      · rename_i h4
        rw [if_pos h4] at he
        unfold failAtM at he ⊢
        split
        · rename_i hh
          rw [if_pos hh] at he
          exact absurd rfl he
        · rfl
      · rename_i h4
        rw [if_neg h4] at he
        split
        · rename_i h5
          rw [if_pos h5] at he
          unfold storeM at he ⊢
          split
          · rename_i hb
            rw [if_pos hb] at he
            split
            · rfl
            · rename_i k hk
              rw [hk] at he
              simp only at he
              split
              · rfl
              · rename_i z hz
                rw [hz] at he
                exact absurd rfl he
          · rfl
        · split <;> rfl
end Go.Proofs.YtegpkcbmgjoicaaGreat
