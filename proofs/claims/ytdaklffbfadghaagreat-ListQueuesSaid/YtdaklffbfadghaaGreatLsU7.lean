/- Rows of 1 numbers: grow, drop. Rows of 2 numbers: grow, drop. Rows of 3 numbers: grow, drop. Conditions: as each theorem says. -/
import Derived.Test.YtdaklffbfadghaaGreatLsU6
import Derived.Test.YtdaklffbfadghaaGreatAppB
namespace Go.Proofs.YtdaklffbfadghaaGreat
open Go.RowKit HP
set_option linter.unusedVariables false
set_option linter.unusedSimpArgs false
set_option maxHeartbeats 4000000 in
set_option maxRecDepth 100000 in
theorem grow1_any {h : Hp} {r : Rw} {w : World} (L : LR w h r) (I : Inv h.m) (hn : r.n ≤ 64) (P : Pcs h.m 1 r.ps r.n) (hc : h.calls < 1000000000) :
    Calls Tryz.prog 109 #[r.ptr] w fun e w' => ∃ (ok : Bool) (m' : HM) (r2 : Rw), e = .returned (.int .i64 (if ok then 0 else 3)) ∧ LS w h r w' m' r2 ∧ Grew h.m m' 1 r.ps r2.ps r.n ok ∧ r2.n = r.n + (if ok then 1 else 0) ∧ r2.closed = r.closed ∧ r2.more = r.more := by
  have hlt := L.rlt r.blk (.inl rfl)
  have c0 := L.k0
  have c1 := L.k1
  have c2 := L.k2
  have f1 := L.free 1
  have f2 := L.free 2
  have HX0 : Hid (LB w h r w h.m r []) := LB.start L
  have HI := hide I
  have HP := hide P
  have hrp : r.ptr = .pointer (some ⟨r.blk, 0, none⟩) := rfl
  obtain ⟨hptr, ehp⟩ : ∃ v, v = h.ptr := ⟨_, rfl⟩
  rw [← ehp] at c0
  rw [hrp]
  obtain ⟨b, eb⟩ : ∃ b, b = r.blk := ⟨_, rfl⟩
  rw [← eb] at hlt c0 c1 c2 f1 f2 ⊢
  have HAL : Hid (∀ W, LB w h r W h.m r [] → Calls Tryz.prog 9 #[hptr, .int .i64 32, .int .i64 8] W fun e W' => e = .returned (.tuple #[.int .i64 (allocM h.m 32 8).2.1, .int .i64 (allocM h.m 32 8).2.2]) ∧ LB w h r W' (allocM h.m 32 8).1 r []) := fun W X => by
    rw [ehp]
    exact lb_alloc X I hc _ _
  obtain ⟨n, en⟩ : ∃ n, n = r.n := ⟨_, rfl⟩
  have HEN := hide en
  have HEB := hide eb
  rw [← en] at c2 hn
  have hni : (n : Int) ≤ 64 := by omega
  clear P I L ehp hrp eb
  by_cases h64 : n = 64
  · have hd1 : ((n : Int) == 64) = true := by simp; omega
    have HG := hide (grew_full HI.out (by have := HP.out; rw [← en, h64] at this; exact this))
    rw [← h64, en] at HG
    clear h64 en
    go_enter Tryz.func109, Tryz.ntmps109
    go_wp2_with fail
    go_ret
    exact ⟨false, h.m, r, rfl, HX0.out.ls, HG.out, by simp, rfl, rfl⟩
  · have hd1 : ((n : Int) == 64) = false := by simp; omega
    have hn2 : n < 64 := by omega
    obtain ⟨c, hcc⟩ : ∃ c, c = n % 4 := ⟨_, rfl⟩
    have hr4 : Int.tmod (n : Int) 4 = (c : Int) := by rw [hcc]; rfl
    have hc4 : c < 4 := by omega
    have hwc : wrap64 (c : Int) = (c : Int) := wrap_small _ (by omega)
    have hwn : wrap64 ((n : Int) + 1) = ((n + 1 : Nat) : Int) := by have := wrap_small (n + 1) (by omega); push_cast at this ⊢; exact this
    by_cases hz : c = 0
    · have hd2 : ((c : Int) == 0) = true := by simp; omega
      have hn4 : r.n % 4 = 0 := by rw [← en, ← hcc]; exact hz
      have HN4 := hide hn4
      have hn2' : r.n < 64 := by omega
      have HN2 := hide hn2'
      clear hn4 hn2' hz hcc en
      go_enter Tryz.func109, Tryz.ntmps109
      go_wp2_with fail
      have hxc := ext_cell
      refine Ri.wp_region_cut 7 (fun w1 => ∃ k, w1 = ext _ k) (by kernel_rfl) (by kernel_rfl) rfl rfl (ext_of_q (Q.drew (Q.refl _))) ?_
      simp only [List.take_succ_cons, List.take_zero, List.drop_succ_cons, List.drop_zero]
      repeat (go_big_quiet_step (((go_at_call 128; exact ext_call (size1_any _ _)))))
      clear hxc
      refine wpQuiet_nil ?_
      intro w4 hww4
      have hqw4 := q_of_ext hww4
      clear hww4
      obtain ⟨hcw4, hfw4, hzw4⟩ := hqw4.facts
      try simp at hzw4
      have HX4 := hide (HX0.out.q hqw4)
      refine Ri.wp_callP #[hptr, .int .i64 32, .int .i64 8] rfl (by simp [Act.eval]) Tryz.func9 (by kernel_rfl) (by kernel_rfl) ((HAL.out _ HX4.out).mono ?_)
      rintro e w5 ⟨rfl, hX5⟩
      refine ⟨_, rfl, ?_⟩
      have HX5 := hide hX5
      obtain ⟨al, eal⟩ : ∃ al, al = (allocM h.m 32 8).2.1 := ⟨_, rfl⟩
      obtain ⟨er, eer⟩ : ∃ er, er = (allocM h.m 32 8).2.2 := ⟨_, rfl⟩
      rw [← eal, ← eer]
      have HAE := hide eal
      have HEE := hide eer
      clear hX5 hcw4 hfw4 hzw4 hqw4 eal eer
      refine ⟨fun w1 => ∃ k, w1 = ext _ k, ext_of_q (Q.refl _), ?_⟩
      try simp only [Act.put, List.setIfInBounds_toArray, List.set_cons_succ, List.set_cons_zero]
      have hxc := ext_cell
      repeat (go_big_quiet_step ((fail)))
      clear hxc
      refine wpQuiet_nil ?_
      intro w6 hww6
      have hqw6 := q_of_ext hww6
      clear hww6
      obtain ⟨hcw6, hfw6, hzw6⟩ := hqw6.facts
      try simp at hzw6
      have HX6 := hide (HX5.out.q hqw6)
      clear hcw6 hfw6 hzw6 hqw6
      by_cases he : er = 0
      · have hE : (allocM h.m 32 8).2.2 = 0 := by rw [← HEE.out]; exact he
        have HG : Hid (Grew h.m (allocM h.m 32 8).1 1 r.ps (r.ps ++ [(allocM h.m 32 8).2.1]) r.n true) := grew_yes HI.out HP.out HN2.out HN4.out (by decide) hE
        rw [← HAE.out] at HG
        have hd3 : (er == 0) = true := by simp; omega
        have k1 := HX6.out.ls.k1
        have k2 := HX6.out.ls.k2
        have f1 := HX6.out.ls.free 1
        have f2 := HX6.out.ls.free 2
        rw [← HEB.out] at k1 k2 f1 f2
        rw [← HEN.out] at k2
        have hlt6 := HX6.out.ls.lt
        rw [← HEB.out] at hlt6
        have hown := HX6.out.owns
        have hps : r.ps.length ≤ 100 := by have := HP.out.len; have := HN2.out; omega
        have HAP := hide HX6.out.ap
        rw [← HEB.out] at HAP
        have HF : Hid (∀ W2 v, w6.grownBy W2 r.pv.ownBlock → W2.ownsRow 0 3 1 v (r.ps.length + 1) (intsV r.ps ++ [.int .i64 al]) → (∀ g, v.ownBlock = some g → r.pv.ownBlock = some g ∨ w6.heap.size ≤ g) →
            LS w h r ((W2.setCell ⟨b, 1, none⟩ v).setCell ⟨b, 2, none⟩ (.int .i64 ((n : Int) + 1))) (allocM h.m 32 8).1 { r with pv := v, ps := r.ps ++ [al], n := r.n + 1 }) := fun W2 v hg hv hnw => by
          have e1 : (r.ps ++ [al]).length = r.ps.length + 1 := by simp
          have e2 : intsV (r.ps ++ [al]) = intsV r.ps ++ [.int .i64 al] := by unfold intsV; simp
          have := ((HX6.out.row (ps := r.ps ++ [al]) hg (by rw [e1, e2]; exact hv) hnw).setN (r.n + 1)).ls
          rw [HEB.out, HEN.out]
          push_cast at this
          exact this
        clear hE he c1 c2 f1 f2
        have f1' := HX6.out.ls.free 1
        have f2' := HX6.out.ls.free 2
        rw [← HEB.out] at f1' f2'
        go_wp2_with (at_builtin; refine wpList_app1b rfl El_int _ _ rfl rfl hown rfl rfl rfl ?_ ?_ ?_ ?_; (focus (simp [Value.oneCell'])); (focus omega); (focus omega); intro v1 w7 hown7 hg7 hn7; obtain ⟨A7, cc7, e7, -⟩ := own_form hown7; have hnb := (fun e => HAP.out b e.symm rfl : ¬ some b = r.pv.ownBlock); have q7 : w7.heap[b]? = w6.heap[b]? := hg7.block b hlt6 (fun e => hnb e); have j1 : w7.cell? ⟨b, 1, none⟩ = some r.pv := (World.cell?_of_block q7).trans k1; have j2 : w7.cell? ⟨b, 2, none⟩ = some (.int .i64 (n : Int)) := (World.cell?_of_block q7).trans k2; have g1 : w7.frozen? ⟨b, 1, none⟩ = false := (World.frozen?_of_block q7).trans f1'; have g2 : w7.frozen? ⟨b, 2, none⟩ = false := (World.frozen?_of_block q7).trans f2'; have HFF := hide (HF.out w7 v1 hg7 hown7 hn7); clear hown7 hg7 hn7 q7 k1 k2 f1' f2' hnb HF; subst e7)
        go_ret
        exact ⟨true, _, _, rfl, HFF.out, HG.out, rfl, rfl, rfl⟩
      · have HG : Hid (Grew h.m (allocM h.m 32 8).1 1 r.ps r.ps r.n false) := grew_no HI.out HP.out HN2.out HN4.out (by decide) (fun e => he (HEE.out.trans e))
        have hd3 : (er == 0) = false := by simp; omega
        clear he
        go_wp2_with fail
        go_ret
        exact ⟨false, _, r, rfl, HX6.out.ls, HG.out, by simp, rfl, rfl⟩
    · have hd2 : ((c : Int) == 0) = false := by simp; omega
      have HG := hide (grew_same HI.out HP.out (by omega) (by rw [← en, ← hcc]; exact hz))
      have HX1 : Hid (LB w h r (w.setCell ⟨b, 2, none⟩ (.int .i64 ((n : Int) + 1))) h.m { r with n := r.n + 1 } []) := by
        rw [HEB.out, en]
        have := HX0.out.setN (r.n + 1)
        push_cast at this
        exact this
      clear hz hcc en
      go_enter Tryz.func109, Tryz.ntmps109
      go_wp2_with fail
      go_ret
      refine ⟨true, h.m, { r with n := r.n + 1 }, rfl, ?_, HG.out, rfl, rfl, rfl⟩
      exact HX1.out.ls
set_option maxHeartbeats 4000000 in
set_option maxRecDepth 100000 in
theorem drop1_any {h : Hp} {r : Rw} {w : World} (L : LR w h r) (I : Inv h.m) (k : Nat) (hk : r.n = k + 1) (hk64 : k < 64) (P : Pcs h.m 1 r.ps (k + 1)) :
    Calls Tryz.prog 102 #[r.ptr] w fun e w' => ∃ (m' : HM) (r2 : Rw), e = .returned (.tuple #[]) ∧ LS w h r w' m' r2 ∧ Dropd h.m m' 1 r.ps r2.ps k ∧ r2.n = k ∧ r2.closed = r.closed ∧ r2.more = r.more := by
  have hlt := L.rlt r.blk (.inl rfl)
  have c2 := L.k2
  have f2 := L.free 2
  have HX0 : Hid (LB w h r w h.m r []) := LB.start L
  have HX1 := hide (HX0.out.setN k)
  have HI := hide I
  have HP := hide P
  have hrp : r.ptr = .pointer (some ⟨r.blk, 0, none⟩) := rfl
  rw [hrp]
  obtain ⟨b, eb⟩ : ∃ b, b = r.blk := ⟨_, rfl⟩
  have HX1 : Hid (LB w h r (w.setCell ⟨b, 2, none⟩ (.int .i64 (k : Int))) h.m { r with n := k } []) := by rw [eb]; exact HX1.out
  rw [← eb] at hlt c2 f2 ⊢
  rw [hk] at c2
  push_cast at c2
  obtain ⟨c, hcc⟩ : ∃ c, c = k % 4 := ⟨_, rfl⟩
  have hr4 : Int.tmod (k : Int) 4 = (c : Int) := by rw [hcc]; rfl
  have hc4 : c < 4 := by omega
  have hki : (k : Int) < 64 := by omega
  have HEB := hide eb
  clear P I L hrp
  by_cases hz : c = 0
  · have hd2 : ((c : Int) == 0) = true := by simp; omega
    have HN4 : Hid (k % 4 = 0) := by rw [← hcc]; exact hz
    obtain ⟨qs, p, eps, hp0, hp1, hfr, hD⟩ := dropd_free HI.out HP.out HN4.out
    have HDD := hide hD
    have HEPS := hide eps
    obtain ⟨g, cc, epv, cP, hgl⟩ := HX0.out.ls.piece (i := qs.length) (p := p) (by rw [eps]; simp)
    have hown := HX0.out.owns
    have hgb : g ≠ b := by rw [eb]; exact HX0.out.ap g (by rw [epv]; rfl)
    have epl : r.ps.length = qs.length + 1 := by rw [eps]; simp
    have hcap : qs.length + 1 ≤ cc := by
      rw [epv, epl] at hown
      rcases hown.2 with ⟨h0, -⟩ | ⟨g', cap, cur, e1, hb, hh, h1, h2⟩
      · cases h0
      · cases e1
        exact h1
    have hql : qs.length ≤ 100 := by have := HP.out.len; omega
    obtain ⟨n, hn⟩ : ∃ n, n = qs.length := ⟨_, rfl⟩
    have HFIN : Hid (∀ W, LB w h r W (freeM h.m p).1 { r with n := k } [] → LS w h r (W.setCell ⟨b, 1, none⟩ (.slice (some ⟨g, 0, none⟩) n cc)) (freeM h.m p).1 { r with pv := .slice (some ⟨g, 0, none⟩) n cc, ps := qs, n := k }) := fun W X => by
      have ho := X.owns
      have ho : W.ownsRow 0 3 1 r.pv r.ps.length (intsV r.ps) := ho
      rw [epv, epl] at ho
      have ho2 := own_take ho (k := qs.length) (by omega)
      have e3 : (intsV r.ps).take (qs.length * 1) = intsV qs := by
        rw [eps]
        unfold intsV
        rw [List.map_append, Nat.mul_one, List.take_left' (by simp)]
      rw [e3, ← hn] at ho2
      rw [eb]
      refine (X.row (W2 := W) (v := .slice (some ⟨g, 0, none⟩) n cc) (ps := qs) ⟨rfl, rfl, rfl, Nat.le_refl _, fun _ _ _ => rfl⟩ (by rw [← hn]; exact ho2) fun b' hb' => .inl ?_).ls
      show r.pv.ownBlock = some b'
      rw [epv]
      exact hb'
    have HFREE : Hid (∀ W, LB w h r W h.m { r with n := k } [] → Calls Tryz.prog 108 #[h.ptr, .int .i64 p] W fun e W' => e = .returned (.int .i64 (freeM h.m p).2) ∧ LB w h r W' (freeM h.m p).1 { r with n := k } []) := fun W X => lb_free X HI.out p (by omega) (by omega)
    have HK : Hid (∀ W m', LB w h r W m' { r with n := k } [] → W.cell? ⟨b, 0, none⟩ = some h.ptr ∧ W.cell? ⟨b, 1, none⟩ = some (.slice (some ⟨g, 0, none⟩) (n + 1) cc) ∧ W.cell? ⟨b, 2, none⟩ = some (.int .i64 (k : Int)) ∧ W.frozen? ⟨b, 1, none⟩ = false ∧ b < W.heap.size) := fun W m' X => by
      rw [eb]
      refine ⟨X.ls.k0, ?_, X.ls.k2, X.ls.free 1, X.ls.lt⟩
      have := X.ls.k1
      have : W.cell? ⟨r.blk, 1, none⟩ = some r.pv := this
      rw [epv, epl, ← hn] at this
      exact this
    obtain ⟨hptr, ehp⟩ : ∃ v, v = h.ptr := ⟨_, rfl⟩
    rw [← ehp] at HFREE HK
    rw [← hn] at cP hcap hql
    have hnc : n ≤ cc := by omega
    have hnn : (n : Int) < ((n + 1 : Nat) : Int) := by omega
    have hni : (n : Int) ≤ 100 := by omega
    have j0 := HX0.out.ls.k0
    have j1 := HX0.out.ls.k1
    have f1 := HX0.out.ls.free 1
    rw [epv, epl, ← hn] at j1
    rw [← ehp] at j0
    rw [← eb] at j0 j1 f1
    have hbg : ¬ b = g := fun e => hgb e.symm
    have hwn : wrap64 (n : Int) = (n : Int) := wrap_small _ (by omega)
    clear hD eps epv hown epl hn hz hcc ehp eb hk hfr
    go_enter Tryz.func102, Tryz.ntmps102
    go_wp2_with fail
    have hxc := ext_cell
    refine Ri.wp_region_cut 11 (fun w1 => ∃ k, w1 = ext _ k) (by kernel_rfl) (by kernel_rfl) rfl rfl (ext_of_q (Q.drew (Q.refl _))) ?_
    simp only [List.take_succ_cons, List.take_zero, List.drop_succ_cons, List.drop_zero]
    repeat (go_big_quiet_step ((fail)))
    clear hxc
    refine wpQuiet_nil ?_
    intro w4 hww4
    have hqw4 := q_of_ext hww4
    clear hww4
    obtain ⟨hcw4, hfw4, hzw4⟩ := hqw4.facts
    try simp at hzw4
    have HX4 := hide (HX1.out.q hqw4)
    refine Ri.wp_callP #[hptr, .int .i64 p] rfl (by simp [Act.eval]) Tryz.func108 (by kernel_rfl) (by kernel_rfl) ((HFREE.out _ HX4.out).mono ?_)
    rintro e w5 ⟨rfl, hX5⟩
    refine ⟨_, rfl, ?_⟩
    have HX5 := hide hX5
    clear hX5 hcw4 hfw4 hzw4 hqw4 j0 j1 f1 f2 c2 cP
    refine ⟨fun w1 => ∃ k, w1 = ext _ k, ext_of_q (Q.refl _), ?_⟩
    try simp only [Act.put, List.setIfInBounds_toArray, List.set_cons_succ, List.set_cons_zero]
    have hxc := ext_cell
    repeat (go_big_quiet_step ((fail)))
    clear hxc
    refine wpQuiet_nil ?_
    intro w6 hww6
    have hqw6 := q_of_ext hww6
    clear hww6
    obtain ⟨hcw6, hfw6, hzw6⟩ := hqw6.facts
    try simp at hzw6
    have HX6 := hide (HX5.out.q hqw6)
    clear hcw6 hfw6 hzw6 hqw6
    obtain ⟨j0, j1, j2, g1, hbl⟩ := HK.out _ _ HX6.out
    go_wp2_with fail
    go_end0
    exact ⟨_, _, rfl, HFIN.out _ HX6.out, HDD.out, rfl, rfl, rfl⟩
  · have hd2 : ((c : Int) == 0) = false := by simp; omega
    have HD := hide (dropd_same HI.out HP.out (by rw [← hcc]; exact hz))
    clear hz hcc hk eb
    go_enter Tryz.func102, Tryz.ntmps102
    go_wp2_with fail
    go_end0
    exact ⟨h.m, _, rfl, HX1.out.ls, HD.out, rfl, rfl, rfl⟩
end Go.Proofs.YtdaklffbfadghaaGreat

namespace Go.Proofs.YtdaklffbfadghaaGreat
open Go.RowKit HP
set_option linter.unusedVariables false
set_option linter.unusedSimpArgs false
set_option maxHeartbeats 4000000 in
set_option maxRecDepth 100000 in
theorem grow2_any {h : Hp} {r : Rw} {w : World} (L : LR w h r) (I : Inv h.m) (hn : r.n ≤ 64) (P : Pcs h.m 2 r.ps r.n) (hc : h.calls < 1000000000) :
    Calls Tryz.prog 104 #[r.ptr] w fun e w' => ∃ (ok : Bool) (m' : HM) (r2 : Rw), e = .returned (.int .i64 (if ok then 0 else 3)) ∧ LS w h r w' m' r2 ∧ Grew h.m m' 2 r.ps r2.ps r.n ok ∧ r2.n = r.n + (if ok then 1 else 0) ∧ r2.closed = r.closed ∧ r2.more = r.more := by
  have hlt := L.rlt r.blk (.inl rfl)
  have c0 := L.k0
  have c1 := L.k1
  have c2 := L.k2
  have f1 := L.free 1
  have f2 := L.free 2
  have HX0 : Hid (LB w h r w h.m r []) := LB.start L
  have HI := hide I
  have HP := hide P
  have hrp : r.ptr = .pointer (some ⟨r.blk, 0, none⟩) := rfl
  obtain ⟨hptr, ehp⟩ : ∃ v, v = h.ptr := ⟨_, rfl⟩
  rw [← ehp] at c0
  rw [hrp]
  obtain ⟨b, eb⟩ : ∃ b, b = r.blk := ⟨_, rfl⟩
  rw [← eb] at hlt c0 c1 c2 f1 f2 ⊢
  have HAL : Hid (∀ W, LB w h r W h.m r [] → Calls Tryz.prog 9 #[hptr, .int .i64 64, .int .i64 8] W fun e W' => e = .returned (.tuple #[.int .i64 (allocM h.m 64 8).2.1, .int .i64 (allocM h.m 64 8).2.2]) ∧ LB w h r W' (allocM h.m 64 8).1 r []) := fun W X => by
    rw [ehp]
    exact lb_alloc X I hc _ _
  obtain ⟨n, en⟩ : ∃ n, n = r.n := ⟨_, rfl⟩
  have HEN := hide en
  have HEB := hide eb
  rw [← en] at c2 hn
  have hni : (n : Int) ≤ 64 := by omega
  clear P I L ehp hrp eb
  by_cases h64 : n = 64
  · have hd1 : ((n : Int) == 64) = true := by simp; omega
    have HG := hide (grew_full HI.out (by have := HP.out; rw [← en, h64] at this; exact this))
    rw [← h64, en] at HG
    clear h64 en
    go_enter Tryz.func104, Tryz.ntmps104
    go_wp2_with fail
    go_ret
    exact ⟨false, h.m, r, rfl, HX0.out.ls, HG.out, by simp, rfl, rfl⟩
  · have hd1 : ((n : Int) == 64) = false := by simp; omega
    have hn2 : n < 64 := by omega
    obtain ⟨c, hcc⟩ : ∃ c, c = n % 4 := ⟨_, rfl⟩
    have hr4 : Int.tmod (n : Int) 4 = (c : Int) := by rw [hcc]; rfl
    have hc4 : c < 4 := by omega
    have hwc : wrap64 (c : Int) = (c : Int) := wrap_small _ (by omega)
    have hwn : wrap64 ((n : Int) + 1) = ((n + 1 : Nat) : Int) := by have := wrap_small (n + 1) (by omega); push_cast at this ⊢; exact this
    by_cases hz : c = 0
    · have hd2 : ((c : Int) == 0) = true := by simp; omega
      have hn4 : r.n % 4 = 0 := by rw [← en, ← hcc]; exact hz
      have HN4 := hide hn4
      have hn2' : r.n < 64 := by omega
      have HN2 := hide hn2'
      clear hn4 hn2' hz hcc en
      go_enter Tryz.func104, Tryz.ntmps104
      go_wp2_with fail
      have hxc := ext_cell
      refine Ri.wp_region_cut 7 (fun w1 => ∃ k, w1 = ext _ k) (by kernel_rfl) (by kernel_rfl) rfl rfl (ext_of_q (Q.drew (Q.refl _))) ?_
      simp only [List.take_succ_cons, List.take_zero, List.drop_succ_cons, List.drop_zero]
      repeat (go_big_quiet_step (((go_at_call 125; exact ext_call (size2_any _ _)))))
      clear hxc
      refine wpQuiet_nil ?_
      intro w4 hww4
      have hqw4 := q_of_ext hww4
      clear hww4
      obtain ⟨hcw4, hfw4, hzw4⟩ := hqw4.facts
      try simp at hzw4
      have HX4 := hide (HX0.out.q hqw4)
      refine Ri.wp_callP #[hptr, .int .i64 64, .int .i64 8] rfl (by simp [Act.eval]) Tryz.func9 (by kernel_rfl) (by kernel_rfl) ((HAL.out _ HX4.out).mono ?_)
      rintro e w5 ⟨rfl, hX5⟩
      refine ⟨_, rfl, ?_⟩
      have HX5 := hide hX5
      obtain ⟨al, eal⟩ : ∃ al, al = (allocM h.m 64 8).2.1 := ⟨_, rfl⟩
      obtain ⟨er, eer⟩ : ∃ er, er = (allocM h.m 64 8).2.2 := ⟨_, rfl⟩
      rw [← eal, ← eer]
      have HAE := hide eal
      have HEE := hide eer
      clear hX5 hcw4 hfw4 hzw4 hqw4 eal eer
      refine ⟨fun w1 => ∃ k, w1 = ext _ k, ext_of_q (Q.refl _), ?_⟩
      try simp only [Act.put, List.setIfInBounds_toArray, List.set_cons_succ, List.set_cons_zero]
      have hxc := ext_cell
      repeat (go_big_quiet_step ((fail)))
      clear hxc
      refine wpQuiet_nil ?_
      intro w6 hww6
      have hqw6 := q_of_ext hww6
      clear hww6
      obtain ⟨hcw6, hfw6, hzw6⟩ := hqw6.facts
      try simp at hzw6
      have HX6 := hide (HX5.out.q hqw6)
      clear hcw6 hfw6 hzw6 hqw6
      by_cases he : er = 0
      · have hE : (allocM h.m 64 8).2.2 = 0 := by rw [← HEE.out]; exact he
        have HG : Hid (Grew h.m (allocM h.m 64 8).1 2 r.ps (r.ps ++ [(allocM h.m 64 8).2.1]) r.n true) := grew_yes HI.out HP.out HN2.out HN4.out (by decide) hE
        rw [← HAE.out] at HG
        have hd3 : (er == 0) = true := by simp; omega
        have k1 := HX6.out.ls.k1
        have k2 := HX6.out.ls.k2
        have f1 := HX6.out.ls.free 1
        have f2 := HX6.out.ls.free 2
        rw [← HEB.out] at k1 k2 f1 f2
        rw [← HEN.out] at k2
        have hlt6 := HX6.out.ls.lt
        rw [← HEB.out] at hlt6
        have hown := HX6.out.owns
        have hps : r.ps.length ≤ 100 := by have := HP.out.len; have := HN2.out; omega
        have HAP := hide HX6.out.ap
        rw [← HEB.out] at HAP
        have HF : Hid (∀ W2 v, w6.grownBy W2 r.pv.ownBlock → W2.ownsRow 0 3 1 v (r.ps.length + 1) (intsV r.ps ++ [.int .i64 al]) → (∀ g, v.ownBlock = some g → r.pv.ownBlock = some g ∨ w6.heap.size ≤ g) →
            LS w h r ((W2.setCell ⟨b, 1, none⟩ v).setCell ⟨b, 2, none⟩ (.int .i64 ((n : Int) + 1))) (allocM h.m 64 8).1 { r with pv := v, ps := r.ps ++ [al], n := r.n + 1 }) := fun W2 v hg hv hnw => by
          have e1 : (r.ps ++ [al]).length = r.ps.length + 1 := by simp
          have e2 : intsV (r.ps ++ [al]) = intsV r.ps ++ [.int .i64 al] := by unfold intsV; simp
          have := ((HX6.out.row (ps := r.ps ++ [al]) hg (by rw [e1, e2]; exact hv) hnw).setN (r.n + 1)).ls
          rw [HEB.out, HEN.out]
          push_cast at this
          exact this
        clear hE he c1 c2 f1 f2
        have f1' := HX6.out.ls.free 1
        have f2' := HX6.out.ls.free 2
        rw [← HEB.out] at f1' f2'
        go_wp2_with (at_builtin; refine wpList_app1b rfl El_int _ _ rfl rfl hown rfl rfl rfl ?_ ?_ ?_ ?_; (focus (simp [Value.oneCell'])); (focus omega); (focus omega); intro v1 w7 hown7 hg7 hn7; obtain ⟨A7, cc7, e7, -⟩ := own_form hown7; have hnb := (fun e => HAP.out b e.symm rfl : ¬ some b = r.pv.ownBlock); have q7 : w7.heap[b]? = w6.heap[b]? := hg7.block b hlt6 (fun e => hnb e); have j1 : w7.cell? ⟨b, 1, none⟩ = some r.pv := (World.cell?_of_block q7).trans k1; have j2 : w7.cell? ⟨b, 2, none⟩ = some (.int .i64 (n : Int)) := (World.cell?_of_block q7).trans k2; have g1 : w7.frozen? ⟨b, 1, none⟩ = false := (World.frozen?_of_block q7).trans f1'; have g2 : w7.frozen? ⟨b, 2, none⟩ = false := (World.frozen?_of_block q7).trans f2'; have HFF := hide (HF.out w7 v1 hg7 hown7 hn7); clear hown7 hg7 hn7 q7 k1 k2 f1' f2' hnb HF; subst e7)
        go_ret
        exact ⟨true, _, _, rfl, HFF.out, HG.out, rfl, rfl, rfl⟩
      · have HG : Hid (Grew h.m (allocM h.m 64 8).1 2 r.ps r.ps r.n false) := grew_no HI.out HP.out HN2.out HN4.out (by decide) (fun e => he (HEE.out.trans e))
        have hd3 : (er == 0) = false := by simp; omega
        clear he
        go_wp2_with fail
        go_ret
        exact ⟨false, _, r, rfl, HX6.out.ls, HG.out, by simp, rfl, rfl⟩
    · have hd2 : ((c : Int) == 0) = false := by simp; omega
      have HG := hide (grew_same HI.out HP.out (by omega) (by rw [← en, ← hcc]; exact hz))
      have HX1 : Hid (LB w h r (w.setCell ⟨b, 2, none⟩ (.int .i64 ((n : Int) + 1))) h.m { r with n := r.n + 1 } []) := by
        rw [HEB.out, en]
        have := HX0.out.setN (r.n + 1)
        push_cast at this
        exact this
      clear hz hcc en
      go_enter Tryz.func104, Tryz.ntmps104
      go_wp2_with fail
      go_ret
      refine ⟨true, h.m, { r with n := r.n + 1 }, rfl, ?_, HG.out, rfl, rfl, rfl⟩
      exact HX1.out.ls
set_option maxHeartbeats 4000000 in
set_option maxRecDepth 100000 in
theorem drop2_any {h : Hp} {r : Rw} {w : World} (L : LR w h r) (I : Inv h.m) (k : Nat) (hk : r.n = k + 1) (hk64 : k < 64) (P : Pcs h.m 2 r.ps (k + 1)) :
    Calls Tryz.prog 105 #[r.ptr] w fun e w' => ∃ (m' : HM) (r2 : Rw), e = .returned (.tuple #[]) ∧ LS w h r w' m' r2 ∧ Dropd h.m m' 2 r.ps r2.ps k ∧ r2.n = k ∧ r2.closed = r.closed ∧ r2.more = r.more := by
  have hlt := L.rlt r.blk (.inl rfl)
  have c2 := L.k2
  have f2 := L.free 2
  have HX0 : Hid (LB w h r w h.m r []) := LB.start L
  have HX1 := hide (HX0.out.setN k)
  have HI := hide I
  have HP := hide P
  have hrp : r.ptr = .pointer (some ⟨r.blk, 0, none⟩) := rfl
  rw [hrp]
  obtain ⟨b, eb⟩ : ∃ b, b = r.blk := ⟨_, rfl⟩
  have HX1 : Hid (LB w h r (w.setCell ⟨b, 2, none⟩ (.int .i64 (k : Int))) h.m { r with n := k } []) := by rw [eb]; exact HX1.out
  rw [← eb] at hlt c2 f2 ⊢
  rw [hk] at c2
  push_cast at c2
  obtain ⟨c, hcc⟩ : ∃ c, c = k % 4 := ⟨_, rfl⟩
  have hr4 : Int.tmod (k : Int) 4 = (c : Int) := by rw [hcc]; rfl
  have hc4 : c < 4 := by omega
  have hki : (k : Int) < 64 := by omega
  have HEB := hide eb
  clear P I L hrp
  by_cases hz : c = 0
  · have hd2 : ((c : Int) == 0) = true := by simp; omega
    have HN4 : Hid (k % 4 = 0) := by rw [← hcc]; exact hz
    obtain ⟨qs, p, eps, hp0, hp1, hfr, hD⟩ := dropd_free HI.out HP.out HN4.out
    have HDD := hide hD
    have HEPS := hide eps
    obtain ⟨g, cc, epv, cP, hgl⟩ := HX0.out.ls.piece (i := qs.length) (p := p) (by rw [eps]; simp)
    have hown := HX0.out.owns
    have hgb : g ≠ b := by rw [eb]; exact HX0.out.ap g (by rw [epv]; rfl)
    have epl : r.ps.length = qs.length + 1 := by rw [eps]; simp
    have hcap : qs.length + 1 ≤ cc := by
      rw [epv, epl] at hown
      rcases hown.2 with ⟨h0, -⟩ | ⟨g', cap, cur, e1, hb, hh, h1, h2⟩
      · cases h0
      · cases e1
        exact h1
    have hql : qs.length ≤ 100 := by have := HP.out.len; omega
    obtain ⟨n, hn⟩ : ∃ n, n = qs.length := ⟨_, rfl⟩
    have HFIN : Hid (∀ W, LB w h r W (freeM h.m p).1 { r with n := k } [] → LS w h r (W.setCell ⟨b, 1, none⟩ (.slice (some ⟨g, 0, none⟩) n cc)) (freeM h.m p).1 { r with pv := .slice (some ⟨g, 0, none⟩) n cc, ps := qs, n := k }) := fun W X => by
      have ho := X.owns
      have ho : W.ownsRow 0 3 1 r.pv r.ps.length (intsV r.ps) := ho
      rw [epv, epl] at ho
      have ho2 := own_take ho (k := qs.length) (by omega)
      have e3 : (intsV r.ps).take (qs.length * 1) = intsV qs := by
        rw [eps]
        unfold intsV
        rw [List.map_append, Nat.mul_one, List.take_left' (by simp)]
      rw [e3, ← hn] at ho2
      rw [eb]
      refine (X.row (W2 := W) (v := .slice (some ⟨g, 0, none⟩) n cc) (ps := qs) ⟨rfl, rfl, rfl, Nat.le_refl _, fun _ _ _ => rfl⟩ (by rw [← hn]; exact ho2) fun b' hb' => .inl ?_).ls
      show r.pv.ownBlock = some b'
      rw [epv]
      exact hb'
    have HFREE : Hid (∀ W, LB w h r W h.m { r with n := k } [] → Calls Tryz.prog 108 #[h.ptr, .int .i64 p] W fun e W' => e = .returned (.int .i64 (freeM h.m p).2) ∧ LB w h r W' (freeM h.m p).1 { r with n := k } []) := fun W X => lb_free X HI.out p (by omega) (by omega)
    have HK : Hid (∀ W m', LB w h r W m' { r with n := k } [] → W.cell? ⟨b, 0, none⟩ = some h.ptr ∧ W.cell? ⟨b, 1, none⟩ = some (.slice (some ⟨g, 0, none⟩) (n + 1) cc) ∧ W.cell? ⟨b, 2, none⟩ = some (.int .i64 (k : Int)) ∧ W.frozen? ⟨b, 1, none⟩ = false ∧ b < W.heap.size) := fun W m' X => by
      rw [eb]
      refine ⟨X.ls.k0, ?_, X.ls.k2, X.ls.free 1, X.ls.lt⟩
      have := X.ls.k1
      have : W.cell? ⟨r.blk, 1, none⟩ = some r.pv := this
      rw [epv, epl, ← hn] at this
      exact this
    obtain ⟨hptr, ehp⟩ : ∃ v, v = h.ptr := ⟨_, rfl⟩
    rw [← ehp] at HFREE HK
    rw [← hn] at cP hcap hql
    have hnc : n ≤ cc := by omega
    have hnn : (n : Int) < ((n + 1 : Nat) : Int) := by omega
    have hni : (n : Int) ≤ 100 := by omega
    have j0 := HX0.out.ls.k0
    have j1 := HX0.out.ls.k1
    have f1 := HX0.out.ls.free 1
    rw [epv, epl, ← hn] at j1
    rw [← ehp] at j0
    rw [← eb] at j0 j1 f1
    have hbg : ¬ b = g := fun e => hgb e.symm
    have hwn : wrap64 (n : Int) = (n : Int) := wrap_small _ (by omega)
    clear hD eps epv hown epl hn hz hcc ehp eb hk hfr
    go_enter Tryz.func105, Tryz.ntmps105
    go_wp2_with fail
    have hxc := ext_cell
    refine Ri.wp_region_cut 11 (fun w1 => ∃ k, w1 = ext _ k) (by kernel_rfl) (by kernel_rfl) rfl rfl (ext_of_q (Q.drew (Q.refl _))) ?_
    simp only [List.take_succ_cons, List.take_zero, List.drop_succ_cons, List.drop_zero]
    repeat (go_big_quiet_step ((fail)))
    clear hxc
    refine wpQuiet_nil ?_
    intro w4 hww4
    have hqw4 := q_of_ext hww4
    clear hww4
    obtain ⟨hcw4, hfw4, hzw4⟩ := hqw4.facts
    try simp at hzw4
    have HX4 := hide (HX1.out.q hqw4)
    refine Ri.wp_callP #[hptr, .int .i64 p] rfl (by simp [Act.eval]) Tryz.func108 (by kernel_rfl) (by kernel_rfl) ((HFREE.out _ HX4.out).mono ?_)
    rintro e w5 ⟨rfl, hX5⟩
    refine ⟨_, rfl, ?_⟩
    have HX5 := hide hX5
    clear hX5 hcw4 hfw4 hzw4 hqw4 j0 j1 f1 f2 c2 cP
    refine ⟨fun w1 => ∃ k, w1 = ext _ k, ext_of_q (Q.refl _), ?_⟩
    try simp only [Act.put, List.setIfInBounds_toArray, List.set_cons_succ, List.set_cons_zero]
    have hxc := ext_cell
    repeat (go_big_quiet_step ((fail)))
    clear hxc
    refine wpQuiet_nil ?_
    intro w6 hww6
    have hqw6 := q_of_ext hww6
    clear hww6
    obtain ⟨hcw6, hfw6, hzw6⟩ := hqw6.facts
    try simp at hzw6
    have HX6 := hide (HX5.out.q hqw6)
    clear hcw6 hfw6 hzw6 hqw6
    obtain ⟨j0, j1, j2, g1, hbl⟩ := HK.out _ _ HX6.out
    go_wp2_with fail
    go_end0
    exact ⟨_, _, rfl, HFIN.out _ HX6.out, HDD.out, rfl, rfl, rfl⟩
  · have hd2 : ((c : Int) == 0) = false := by simp; omega
    have HD := hide (dropd_same HI.out HP.out (by rw [← hcc]; exact hz))
    clear hz hcc hk eb
    go_enter Tryz.func105, Tryz.ntmps105
    go_wp2_with fail
    go_end0
    exact ⟨h.m, _, rfl, HX1.out.ls, HD.out, rfl, rfl, rfl⟩
end Go.Proofs.YtdaklffbfadghaaGreat

namespace Go.Proofs.YtdaklffbfadghaaGreat
open Go.RowKit HP
set_option linter.unusedVariables false
set_option linter.unusedSimpArgs false
set_option maxHeartbeats 4000000 in
set_option maxRecDepth 100000 in
theorem grow3_any {h : Hp} {r : Rw} {w : World} (L : LR w h r) (I : Inv h.m) (hn : r.n ≤ 64) (P : Pcs h.m 3 r.ps r.n) (hc : h.calls < 1000000000) :
    Calls Tryz.prog 106 #[r.ptr] w fun e w' => ∃ (ok : Bool) (m' : HM) (r2 : Rw), e = .returned (.int .i64 (if ok then 0 else 3)) ∧ LS w h r w' m' r2 ∧ Grew h.m m' 3 r.ps r2.ps r.n ok ∧ r2.n = r.n + (if ok then 1 else 0) ∧ r2.closed = r.closed ∧ r2.more = r.more := by
  have hlt := L.rlt r.blk (.inl rfl)
  have c0 := L.k0
  have c1 := L.k1
  have c2 := L.k2
  have f1 := L.free 1
  have f2 := L.free 2
  have HX0 : Hid (LB w h r w h.m r []) := LB.start L
  have HI := hide I
  have HP := hide P
  have hrp : r.ptr = .pointer (some ⟨r.blk, 0, none⟩) := rfl
  obtain ⟨hptr, ehp⟩ : ∃ v, v = h.ptr := ⟨_, rfl⟩
  rw [← ehp] at c0
  rw [hrp]
  obtain ⟨b, eb⟩ : ∃ b, b = r.blk := ⟨_, rfl⟩
  rw [← eb] at hlt c0 c1 c2 f1 f2 ⊢
  have HAL : Hid (∀ W, LB w h r W h.m r [] → Calls Tryz.prog 9 #[hptr, .int .i64 96, .int .i64 8] W fun e W' => e = .returned (.tuple #[.int .i64 (allocM h.m 96 8).2.1, .int .i64 (allocM h.m 96 8).2.2]) ∧ LB w h r W' (allocM h.m 96 8).1 r []) := fun W X => by
    rw [ehp]
    exact lb_alloc X I hc _ _
  obtain ⟨n, en⟩ : ∃ n, n = r.n := ⟨_, rfl⟩
  have HEN := hide en
  have HEB := hide eb
  rw [← en] at c2 hn
  have hni : (n : Int) ≤ 64 := by omega
  clear P I L ehp hrp eb
  by_cases h64 : n = 64
  · have hd1 : ((n : Int) == 64) = true := by simp; omega
    have HG := hide (grew_full HI.out (by have := HP.out; rw [← en, h64] at this; exact this))
    rw [← h64, en] at HG
    clear h64 en
    go_enter Tryz.func106, Tryz.ntmps106
    go_wp2_with fail
    go_ret
    exact ⟨false, h.m, r, rfl, HX0.out.ls, HG.out, by simp, rfl, rfl⟩
  · have hd1 : ((n : Int) == 64) = false := by simp; omega
    have hn2 : n < 64 := by omega
    obtain ⟨c, hcc⟩ : ∃ c, c = n % 4 := ⟨_, rfl⟩
    have hr4 : Int.tmod (n : Int) 4 = (c : Int) := by rw [hcc]; rfl
    have hc4 : c < 4 := by omega
    have hwc : wrap64 (c : Int) = (c : Int) := wrap_small _ (by omega)
    have hwn : wrap64 ((n : Int) + 1) = ((n + 1 : Nat) : Int) := by have := wrap_small (n + 1) (by omega); push_cast at this ⊢; exact this
    by_cases hz : c = 0
    · have hd2 : ((c : Int) == 0) = true := by simp; omega
      have hn4 : r.n % 4 = 0 := by rw [← en, ← hcc]; exact hz
      have HN4 := hide hn4
      have hn2' : r.n < 64 := by omega
      have HN2 := hide hn2'
      clear hn4 hn2' hz hcc en
      go_enter Tryz.func106, Tryz.ntmps106
      go_wp2_with fail
      have hxc := ext_cell
      refine Ri.wp_region_cut 7 (fun w1 => ∃ k, w1 = ext _ k) (by kernel_rfl) (by kernel_rfl) rfl rfl (ext_of_q (Q.drew (Q.refl _))) ?_
      simp only [List.take_succ_cons, List.take_zero, List.drop_succ_cons, List.drop_zero]
      repeat (go_big_quiet_step (((go_at_call 126; exact ext_call (size3_any _ _)))))
      clear hxc
      refine wpQuiet_nil ?_
      intro w4 hww4
      have hqw4 := q_of_ext hww4
      clear hww4
      obtain ⟨hcw4, hfw4, hzw4⟩ := hqw4.facts
      try simp at hzw4
      have HX4 := hide (HX0.out.q hqw4)
      refine Ri.wp_callP #[hptr, .int .i64 96, .int .i64 8] rfl (by simp [Act.eval]) Tryz.func9 (by kernel_rfl) (by kernel_rfl) ((HAL.out _ HX4.out).mono ?_)
      rintro e w5 ⟨rfl, hX5⟩
      refine ⟨_, rfl, ?_⟩
      have HX5 := hide hX5
      obtain ⟨al, eal⟩ : ∃ al, al = (allocM h.m 96 8).2.1 := ⟨_, rfl⟩
      obtain ⟨er, eer⟩ : ∃ er, er = (allocM h.m 96 8).2.2 := ⟨_, rfl⟩
      rw [← eal, ← eer]
      have HAE := hide eal
      have HEE := hide eer
      clear hX5 hcw4 hfw4 hzw4 hqw4 eal eer
      refine ⟨fun w1 => ∃ k, w1 = ext _ k, ext_of_q (Q.refl _), ?_⟩
      try simp only [Act.put, List.setIfInBounds_toArray, List.set_cons_succ, List.set_cons_zero]
      have hxc := ext_cell
      repeat (go_big_quiet_step ((fail)))
      clear hxc
      refine wpQuiet_nil ?_
      intro w6 hww6
      have hqw6 := q_of_ext hww6
      clear hww6
      obtain ⟨hcw6, hfw6, hzw6⟩ := hqw6.facts
      try simp at hzw6
      have HX6 := hide (HX5.out.q hqw6)
      clear hcw6 hfw6 hzw6 hqw6
      by_cases he : er = 0
      · have hE : (allocM h.m 96 8).2.2 = 0 := by rw [← HEE.out]; exact he
        have HG : Hid (Grew h.m (allocM h.m 96 8).1 3 r.ps (r.ps ++ [(allocM h.m 96 8).2.1]) r.n true) := grew_yes HI.out HP.out HN2.out HN4.out (by decide) hE
        rw [← HAE.out] at HG
        have hd3 : (er == 0) = true := by simp; omega
        have k1 := HX6.out.ls.k1
        have k2 := HX6.out.ls.k2
        have f1 := HX6.out.ls.free 1
        have f2 := HX6.out.ls.free 2
        rw [← HEB.out] at k1 k2 f1 f2
        rw [← HEN.out] at k2
        have hlt6 := HX6.out.ls.lt
        rw [← HEB.out] at hlt6
        have hown := HX6.out.owns
        have hps : r.ps.length ≤ 100 := by have := HP.out.len; have := HN2.out; omega
        have HAP := hide HX6.out.ap
        rw [← HEB.out] at HAP
        have HF : Hid (∀ W2 v, w6.grownBy W2 r.pv.ownBlock → W2.ownsRow 0 3 1 v (r.ps.length + 1) (intsV r.ps ++ [.int .i64 al]) → (∀ g, v.ownBlock = some g → r.pv.ownBlock = some g ∨ w6.heap.size ≤ g) →
            LS w h r ((W2.setCell ⟨b, 1, none⟩ v).setCell ⟨b, 2, none⟩ (.int .i64 ((n : Int) + 1))) (allocM h.m 96 8).1 { r with pv := v, ps := r.ps ++ [al], n := r.n + 1 }) := fun W2 v hg hv hnw => by
          have e1 : (r.ps ++ [al]).length = r.ps.length + 1 := by simp
          have e2 : intsV (r.ps ++ [al]) = intsV r.ps ++ [.int .i64 al] := by unfold intsV; simp
          have := ((HX6.out.row (ps := r.ps ++ [al]) hg (by rw [e1, e2]; exact hv) hnw).setN (r.n + 1)).ls
          rw [HEB.out, HEN.out]
          push_cast at this
          exact this
        clear hE he c1 c2 f1 f2
        have f1' := HX6.out.ls.free 1
        have f2' := HX6.out.ls.free 2
        rw [← HEB.out] at f1' f2'
        go_wp2_with (at_builtin; refine wpList_app1b rfl El_int _ _ rfl rfl hown rfl rfl rfl ?_ ?_ ?_ ?_; (focus (simp [Value.oneCell'])); (focus omega); (focus omega); intro v1 w7 hown7 hg7 hn7; obtain ⟨A7, cc7, e7, -⟩ := own_form hown7; have hnb := (fun e => HAP.out b e.symm rfl : ¬ some b = r.pv.ownBlock); have q7 : w7.heap[b]? = w6.heap[b]? := hg7.block b hlt6 (fun e => hnb e); have j1 : w7.cell? ⟨b, 1, none⟩ = some r.pv := (World.cell?_of_block q7).trans k1; have j2 : w7.cell? ⟨b, 2, none⟩ = some (.int .i64 (n : Int)) := (World.cell?_of_block q7).trans k2; have g1 : w7.frozen? ⟨b, 1, none⟩ = false := (World.frozen?_of_block q7).trans f1'; have g2 : w7.frozen? ⟨b, 2, none⟩ = false := (World.frozen?_of_block q7).trans f2'; have HFF := hide (HF.out w7 v1 hg7 hown7 hn7); clear hown7 hg7 hn7 q7 k1 k2 f1' f2' hnb HF; subst e7)
        go_ret
        exact ⟨true, _, _, rfl, HFF.out, HG.out, rfl, rfl, rfl⟩
      · have HG : Hid (Grew h.m (allocM h.m 96 8).1 3 r.ps r.ps r.n false) := grew_no HI.out HP.out HN2.out HN4.out (by decide) (fun e => he (HEE.out.trans e))
        have hd3 : (er == 0) = false := by simp; omega
        clear he
        go_wp2_with fail
        go_ret
        exact ⟨false, _, r, rfl, HX6.out.ls, HG.out, by simp, rfl, rfl⟩
    · have hd2 : ((c : Int) == 0) = false := by simp; omega
      have HG := hide (grew_same HI.out HP.out (by omega) (by rw [← en, ← hcc]; exact hz))
      have HX1 : Hid (LB w h r (w.setCell ⟨b, 2, none⟩ (.int .i64 ((n : Int) + 1))) h.m { r with n := r.n + 1 } []) := by
        rw [HEB.out, en]
        have := HX0.out.setN (r.n + 1)
        push_cast at this
        exact this
      clear hz hcc en
      go_enter Tryz.func106, Tryz.ntmps106
      go_wp2_with fail
      go_ret
      refine ⟨true, h.m, { r with n := r.n + 1 }, rfl, ?_, HG.out, rfl, rfl, rfl⟩
      exact HX1.out.ls
set_option maxHeartbeats 4000000 in
set_option maxRecDepth 100000 in
theorem drop3_any {h : Hp} {r : Rw} {w : World} (L : LR w h r) (I : Inv h.m) (k : Nat) (hk : r.n = k + 1) (hk64 : k < 64) (P : Pcs h.m 3 r.ps (k + 1)) :
    Calls Tryz.prog 82 #[r.ptr] w fun e w' => ∃ (m' : HM) (r2 : Rw), e = .returned (.tuple #[]) ∧ LS w h r w' m' r2 ∧ Dropd h.m m' 3 r.ps r2.ps k ∧ r2.n = k ∧ r2.closed = r.closed ∧ r2.more = r.more := by
  have hlt := L.rlt r.blk (.inl rfl)
  have c2 := L.k2
  have f2 := L.free 2
  have HX0 : Hid (LB w h r w h.m r []) := LB.start L
  have HX1 := hide (HX0.out.setN k)
  have HI := hide I
  have HP := hide P
  have hrp : r.ptr = .pointer (some ⟨r.blk, 0, none⟩) := rfl
  rw [hrp]
  obtain ⟨b, eb⟩ : ∃ b, b = r.blk := ⟨_, rfl⟩
  have HX1 : Hid (LB w h r (w.setCell ⟨b, 2, none⟩ (.int .i64 (k : Int))) h.m { r with n := k } []) := by rw [eb]; exact HX1.out
  rw [← eb] at hlt c2 f2 ⊢
  rw [hk] at c2
  push_cast at c2
  obtain ⟨c, hcc⟩ : ∃ c, c = k % 4 := ⟨_, rfl⟩
  have hr4 : Int.tmod (k : Int) 4 = (c : Int) := by rw [hcc]; rfl
  have hc4 : c < 4 := by omega
  have hki : (k : Int) < 64 := by omega
  have HEB := hide eb
  clear P I L hrp
  by_cases hz : c = 0
  · have hd2 : ((c : Int) == 0) = true := by simp; omega
    have HN4 : Hid (k % 4 = 0) := by rw [← hcc]; exact hz
    obtain ⟨qs, p, eps, hp0, hp1, hfr, hD⟩ := dropd_free HI.out HP.out HN4.out
    have HDD := hide hD
    have HEPS := hide eps
    obtain ⟨g, cc, epv, cP, hgl⟩ := HX0.out.ls.piece (i := qs.length) (p := p) (by rw [eps]; simp)
    have hown := HX0.out.owns
    have hgb : g ≠ b := by rw [eb]; exact HX0.out.ap g (by rw [epv]; rfl)
    have epl : r.ps.length = qs.length + 1 := by rw [eps]; simp
    have hcap : qs.length + 1 ≤ cc := by
      rw [epv, epl] at hown
      rcases hown.2 with ⟨h0, -⟩ | ⟨g', cap, cur, e1, hb, hh, h1, h2⟩
      · cases h0
      · cases e1
        exact h1
    have hql : qs.length ≤ 100 := by have := HP.out.len; omega
    obtain ⟨n, hn⟩ : ∃ n, n = qs.length := ⟨_, rfl⟩
    have HFIN : Hid (∀ W, LB w h r W (freeM h.m p).1 { r with n := k } [] → LS w h r (W.setCell ⟨b, 1, none⟩ (.slice (some ⟨g, 0, none⟩) n cc)) (freeM h.m p).1 { r with pv := .slice (some ⟨g, 0, none⟩) n cc, ps := qs, n := k }) := fun W X => by
      have ho := X.owns
      have ho : W.ownsRow 0 3 1 r.pv r.ps.length (intsV r.ps) := ho
      rw [epv, epl] at ho
      have ho2 := own_take ho (k := qs.length) (by omega)
      have e3 : (intsV r.ps).take (qs.length * 1) = intsV qs := by
        rw [eps]
        unfold intsV
        rw [List.map_append, Nat.mul_one, List.take_left' (by simp)]
      rw [e3, ← hn] at ho2
      rw [eb]
      refine (X.row (W2 := W) (v := .slice (some ⟨g, 0, none⟩) n cc) (ps := qs) ⟨rfl, rfl, rfl, Nat.le_refl _, fun _ _ _ => rfl⟩ (by rw [← hn]; exact ho2) fun b' hb' => .inl ?_).ls
      show r.pv.ownBlock = some b'
      rw [epv]
      exact hb'
    have HFREE : Hid (∀ W, LB w h r W h.m { r with n := k } [] → Calls Tryz.prog 108 #[h.ptr, .int .i64 p] W fun e W' => e = .returned (.int .i64 (freeM h.m p).2) ∧ LB w h r W' (freeM h.m p).1 { r with n := k } []) := fun W X => lb_free X HI.out p (by omega) (by omega)
    have HK : Hid (∀ W m', LB w h r W m' { r with n := k } [] → W.cell? ⟨b, 0, none⟩ = some h.ptr ∧ W.cell? ⟨b, 1, none⟩ = some (.slice (some ⟨g, 0, none⟩) (n + 1) cc) ∧ W.cell? ⟨b, 2, none⟩ = some (.int .i64 (k : Int)) ∧ W.frozen? ⟨b, 1, none⟩ = false ∧ b < W.heap.size) := fun W m' X => by
      rw [eb]
      refine ⟨X.ls.k0, ?_, X.ls.k2, X.ls.free 1, X.ls.lt⟩
      have := X.ls.k1
      have : W.cell? ⟨r.blk, 1, none⟩ = some r.pv := this
      rw [epv, epl, ← hn] at this
      exact this
    obtain ⟨hptr, ehp⟩ : ∃ v, v = h.ptr := ⟨_, rfl⟩
    rw [← ehp] at HFREE HK
    rw [← hn] at cP hcap hql
    have hnc : n ≤ cc := by omega
    have hnn : (n : Int) < ((n + 1 : Nat) : Int) := by omega
    have hni : (n : Int) ≤ 100 := by omega
    have j0 := HX0.out.ls.k0
    have j1 := HX0.out.ls.k1
    have f1 := HX0.out.ls.free 1
    rw [epv, epl, ← hn] at j1
    rw [← ehp] at j0
    rw [← eb] at j0 j1 f1
    have hbg : ¬ b = g := fun e => hgb e.symm
    have hwn : wrap64 (n : Int) = (n : Int) := wrap_small _ (by omega)
    clear hD eps epv hown epl hn hz hcc ehp eb hk hfr
    go_enter Tryz.func82, Tryz.ntmps82
    go_wp2_with fail
    have hxc := ext_cell
    refine Ri.wp_region_cut 11 (fun w1 => ∃ k, w1 = ext _ k) (by kernel_rfl) (by kernel_rfl) rfl rfl (ext_of_q (Q.drew (Q.refl _))) ?_
    simp only [List.take_succ_cons, List.take_zero, List.drop_succ_cons, List.drop_zero]
    repeat (go_big_quiet_step ((fail)))
    clear hxc
    refine wpQuiet_nil ?_
    intro w4 hww4
    have hqw4 := q_of_ext hww4
    clear hww4
    obtain ⟨hcw4, hfw4, hzw4⟩ := hqw4.facts
    try simp at hzw4
    have HX4 := hide (HX1.out.q hqw4)
    refine Ri.wp_callP #[hptr, .int .i64 p] rfl (by simp [Act.eval]) Tryz.func108 (by kernel_rfl) (by kernel_rfl) ((HFREE.out _ HX4.out).mono ?_)
    rintro e w5 ⟨rfl, hX5⟩
    refine ⟨_, rfl, ?_⟩
    have HX5 := hide hX5
    clear hX5 hcw4 hfw4 hzw4 hqw4 j0 j1 f1 f2 c2 cP
    refine ⟨fun w1 => ∃ k, w1 = ext _ k, ext_of_q (Q.refl _), ?_⟩
    try simp only [Act.put, List.setIfInBounds_toArray, List.set_cons_succ, List.set_cons_zero]
    have hxc := ext_cell
    repeat (go_big_quiet_step ((fail)))
    clear hxc
    refine wpQuiet_nil ?_
    intro w6 hww6
    have hqw6 := q_of_ext hww6
    clear hww6
    obtain ⟨hcw6, hfw6, hzw6⟩ := hqw6.facts
    try simp at hzw6
    have HX6 := hide (HX5.out.q hqw6)
    clear hcw6 hfw6 hzw6 hqw6
    obtain ⟨j0, j1, j2, g1, hbl⟩ := HK.out _ _ HX6.out
    go_wp2_with fail
    go_end0
    exact ⟨_, _, rfl, HFIN.out _ HX6.out, HDD.out, rfl, rfl, rfl⟩
  · have hd2 : ((c : Int) == 0) = false := by simp; omega
    have HD := hide (dropd_same HI.out HP.out (by rw [← hcc]; exact hz))
    clear hz hcc hk eb
    go_enter Tryz.func82, Tryz.ntmps82
    go_wp2_with fail
    go_end0
    exact ⟨h.m, _, rfl, HX1.out.ls, HD.out, rfl, rfl, rfl⟩
end Go.Proofs.YtdaklffbfadghaaGreat
