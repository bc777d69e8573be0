/- Copy. Conditions: the heap reads so, it is unlocked, and its numbers are within bounds. -/
import Derived.Test.YtegpkcbmgjoicaaGreatHrA
namespace Go.Proofs.YtegpkcbmgjoicaaGreat
open Go.RowKit HP
set_option linter.unusedVariables false
def CopyPost (w : World) (h : Hp) (e : Ending) (w' : World) : Prop :=
  ∃ h' h2 : Hp, e = .returned h2.ptr ∧ Did w h w' h' ∧ h'.mu = 0 ∧ h'.m = h.m ∧ HpR w' h2 ∧ h2.mu = 0 ∧ h2.m = h.m ∧ (∀ b, h2.fp b → w.heap.size ≤ b) ∧ ∀ b, h'.fp b → h.fp b
/-- a block of the copy, put together; and laid in a row -/
def isCv (B m : Nat) (l : List Int) (xa : Int) (v : Value) (W : World) : Prop := ∃ cv, v = .agg #[.int .i64 xa, cv] ∧ W.ownsRow B 3 1 cv m (intsV l)
theorem mono_isCv (B m : Nat) (l : List Int) (xa : Int) : Ri.Mono (isCv B m l xa) := fun _ _ _ ⟨cv, e, h⟩ hq => ⟨cv, e, own_q h hq⟩
def isCs (B m : Nat) (l : List Int) (xa : Int) (v : Value) (W : World) : Prop := ∃ b cv, v = .slice (some ⟨b, 0, none⟩) 1 1 ∧ B ≤ b ∧ W.heap[b]? = some (.cells #[.int .i64 xa, cv] 90 (0, 0)) ∧ W.ownsRow B 3 1 cv m (intsV l)
theorem mono_isCs (B m : Nat) (l : List Int) (xa : Int) : Ri.Mono (isCs B m l xa) := fun _ _ _ ⟨b, cv, e, hb, hc, h⟩ hq => ⟨b, cv, e, hb, (hq.below.block b (blk_lt hc)).trans hc, own_q h hq⟩
theorem copyMid_of {w5 W : World} {B g2 : Nat} {h : Hp} {k m : Nat} {lv v cv : Value} {bs : List Bk} {xa : Int} {l : List Int} (p : PartR w5 B g2 h k lv bs) (h1 : W.ownsRow B 90 2 v (k + 1) (bs.flatMap encBk ++ [.int .i64 xa, cv])) (h2 : W.ownsRow w5.heap.size 3 1 cv m (intsV l)) (hg : w5.grownBy W lv.ownBlock) (hm : m = l.length) (hl : 0 < l.length) : CopyMid w5 B lv k (bs.flatMap encBk) xa l v W := by
  subst hm
  obtain ⟨r2, c2, e, -⟩ := own_at h2 hl
  subst e
  exact ⟨r2, c2, h1, h2, hg⟩
def CopyRel (w1 : World) (g2 : Nat) (h : Hp) (n : Nat) (v : Value) (wr : World) : Prop := ∃ k : Nat, k ≤ n ∧ v = .int .i64 (k : Int) ∧ Hid (∃ lv bs, PartR wr w1.heap.size g2 h k lv bs) ∧ Q w1 wr
set_option maxHeartbeats 8000000 in
set_option maxRecDepth 100000 in
theorem copy_act (h : Hp) (w : World) (H : HpR w h) (I : Inv h.m) (hmu : h.mu = 0) : Calls Tryz.prog 12 #[h.ptr] w (CopyPost w h) := by
  have c0 := H.mu0
  rw [hmu] at c0
  have f0 := H.free 0
  obtain ⟨w1, hw1⟩ : ∃ w1, w1 = w.setCell ⟨h.blk, 0, none⟩ (.int .i32 1) := ⟨_, rfl⟩
  have D1 : Did w h w1 (locked h) := by rw [hw1]; exact (Did.refl H).lock 1
  obtain ⟨r, hr⟩ : ∃ r, r = h.bks := ⟨_, rfl⟩
  unfold Hp.ptr
  obtain ⟨g, hg⟩ : ∃ g, g = h.blk := ⟨_, rfl⟩
  rw [← hg] at c0 f0 hw1 ⊢
  have KM : Hid (∀ W h3, Did w h W h3 → h3.blk = g → h3.mu = 1 → W.cell? ⟨g, 0, none⟩ = some (.int .i32 1) ∧ W.frozen? ⟨g, 0, none⟩ = false) := fun W h3 D e1 e2 => D.mine0 g e1.symm e2
  have HI := hide I
  have HW1 := hide hw1
  have HR := hide hr
  have HG := hide hg
  have HD1 := hide D1
  clear I H hw1 hr hg D1
  have hgl : g < w1.heap.size := by have := blk_lt HD1.out.rep.cells; rw [show (locked h).blk = g from HG.out.symm] at this; exact this
  have hsz1 : w1.heap.size = w.heap.size := by rw [HW1.out]; simp [World.setCell]
  obtain ⟨kd, hkd⟩ : ∃ kd, kd = h.kind := ⟨_, rfl⟩
  obtain ⟨pce, hpc⟩ : ∃ pce, pce = h.piece := ⟨_, rfl⟩
  obtain ⟨sz, hsz⟩ : ∃ sz, sz = h.size := ⟨_, rfl⟩
  obtain ⟨pk, hpk⟩ : ∃ pk, pk = h.peak := ⟨_, rfl⟩
  obtain ⟨cl, hcl⟩ : ∃ cl, cl = h.calls := ⟨_, rfl⟩
  obtain ⟨fi, hfi⟩ : ∃ fi, fi = h.failIn := ⟨_, rfl⟩
  have K2 : Hid (w1.cell? ⟨g, 2, none⟩ = some (.int .i64 kd)) := (HD1.out.rep.cellAt g HG.out.symm 2).trans (by rw [hkd]; rfl)
  have K3 : Hid (w1.cell? ⟨g, 3, none⟩ = some (.int .i64 pce)) := (HD1.out.rep.cellAt g HG.out.symm 3).trans (by rw [hpc]; rfl)
  have K4 : Hid (w1.cell? ⟨g, 4, none⟩ = some (.int .i64 sz)) := (HD1.out.rep.cellAt g HG.out.symm 4).trans (by rw [hsz]; rfl)
  have K7 : Hid (w1.cell? ⟨g, 7, none⟩ = some (.int .i64 pk)) := (HD1.out.rep.cellAt g HG.out.symm 7).trans (by rw [hpk]; rfl)
  have K8 : Hid (w1.cell? ⟨g, 8, none⟩ = some (.int .i64 cl)) := (HD1.out.rep.cellAt g HG.out.symm 8).trans (by rw [hcl]; rfl)
  have K9 : Hid (w1.cell? ⟨g, 9, none⟩ = some (.int .i64 fi)) := (HD1.out.rep.cellAt g HG.out.symm 9).trans (by rw [hfi]; rfl)
  have HC0 : Hid (#[.int .i32 0, .int .u32 0, .int .i64 kd, .int .i64 pce, .int .i64 sz, .slice none 0 0, .nilIface, .int .i64 pk, .int .i64 cl, .int .i64 fi] = partCells h (.slice none 0 0)) := by rw [hkd, hpc, hsz, hpk, hcl, hfi]; exact hide rfl
  obtain ⟨A, c, -, hS, k5, -⟩ := HD1.out.rep.open_
  rw [show (locked h).blk = g from HG.out.symm] at k5
  rw [show (locked h).bks = h.bks from rfl] at hS k5
  obtain ⟨N, hN⟩ : ∃ N, N = h.bks.length := ⟨_, rfl⟩
  rw [← hN] at hS k5
  have HNN := hide hN
  have HS := hide hS
  have K5 := hide k5
  have hNi : N ≤ 64 := by rw [hN]; have := HI.out.len; simp only [Hp.m, List.length_map] at this; exact this
  have hNI : (N : Int) ≤ 64 := by omega
  obtain ⟨fC, rcvC, ⟨ty, u, hway, hmC, heC⟩, hcl2⟩ := clone_any (locked h) HI.out.kind
  have K6 : Hid (w1.cell? ⟨g, 6, none⟩ = some (.iface ty u)) := (HD1.out.rep.cellAt g HG.out.symm 6).trans (by rw [← hway]; rfl)
  have HCLN : Hid (∀ (g2 : Nat) W, Q w1 W → Calls Tryz.prog fC #[rcvC, .pointer (some ⟨g2, 4, none⟩)] W (ClonePost (locked h) g2 W)) := fun g2 W hq => hcl2 g2 W (HD1.out.rep.q hq)
  have hN2 := HI.out.near.2
  have HN2 := hide hN2
  clear HR hkd hpc hsz hpk hcl hfi hS k5 hN hway hcl2 hN2
  go_enter_defers Tryz.func12, Tryz.ntmps12
  go_wp2_with (go_at_call 35; refine (Go.MuLone.lock_free muLib ⟨g, 0, none⟩ _ c0 f0).mono ?_; rintro e w' ⟨rfl, rfl⟩; rw [← HW1.out])
  refine Ri.made_last (Ri.phi [Ri.isV (.pointer (some ⟨g, 0, none⟩)), Ri.isV (.pointer (some ⟨g, 0, none⟩)), Ri.isV (.pointer (some ⟨g, 2, none⟩)), Ri.isV (.int .i64 kd), Ri.isV (.pointer (some ⟨g, 0, none⟩)), Ri.isV (.pointer (some ⟨g, 0, none⟩)), Ri.isV (.pointer (some ⟨g, 3, none⟩)), Ri.isV (.int .i64 pce), Ri.isV (.pointer (some ⟨g, 0, none⟩)), Ri.isV (.pointer (some ⟨g, 0, none⟩)), Ri.isV (.pointer (some ⟨g, 7, none⟩)), Ri.isV (.int .i64 pk), Ri.isV (.pointer (some ⟨g, 0, none⟩)), Ri.isV (.pointer (some ⟨g, 0, none⟩)), Ri.isV (.pointer (some ⟨g, 8, none⟩)), Ri.isV (.int .i64 cl), Ri.isV (.pointer (some ⟨g, 0, none⟩)), Ri.isV (.pointer (some ⟨g, 0, none⟩)), Ri.isV (.pointer (some ⟨g, 9, none⟩)), Ri.isV (.int .i64 fi), Ri.isV (.pointer (some ⟨g, 0, none⟩)), Ri.isV (.pointer (some ⟨g, 0, none⟩)), Ri.isV (.pointer (some ⟨g, 4, none⟩)), Ri.isV (.pointer (some ⟨g, 4, none⟩)), Ri.isV (.int .i64 sz), Ri.isV (.agg #[.int .i64 sz, .slice none 0 0]), Ri.isV (.agg #[.int .i32 0, .int .u32 0, .int .i64 kd, .int .i64 pce, .int .i64 sz, .slice none 0 0, .nilIface, .int .i64 pk, .int .i64 cl, .int .i64 fi]), isBox w1.heap.size #[.int .i32 0, .int .u32 0, .int .i64 kd, .int .i64 pce, .int .i64 sz, .slice none 0 0, .nilIface, .int .i64 pk, .int .i64 cl, .int .i64 fi] 62]) (by kernel_rfl) (by kernel_rfl) rfl (by kernel_rfl) rfl (Ri.phi_mono ?_) ?_ ?_
  · exact ⟨Ri.mono_isV _, Ri.mono_isV _, Ri.mono_isV _, Ri.mono_isV _, Ri.mono_isV _, Ri.mono_isV _, Ri.mono_isV _, Ri.mono_isV _, Ri.mono_isV _, Ri.mono_isV _, Ri.mono_isV _, Ri.mono_isV _, Ri.mono_isV _, Ri.mono_isV _, Ri.mono_isV _, Ri.mono_isV _, Ri.mono_isV _, Ri.mono_isV _, Ri.mono_isV _, Ri.mono_isV _, Ri.mono_isV _, Ri.mono_isV _, Ri.mono_isV _, Ri.mono_isV _, Ri.mono_isV _, Ri.mono_isV _, Ri.mono_isV _, mono_isBox _ _ _, trivial⟩
  · refine Ri.All.cons ?_ (Ri.All.cons ?_ (Ri.All.cons ?_ (Ri.All.cons ?_ (Ri.All.cons ?_ (Ri.All.cons ?_ (Ri.All.cons ?_ (Ri.All.cons ?_ (Ri.All.cons ?_ (Ri.All.cons ?_ (Ri.All.cons ?_ (Ri.All.cons ?_ (Ri.All.cons ?_ (Ri.All.cons ?_ (Ri.All.cons ?_ (Ri.All.cons ?_ (Ri.All.cons ?_ (Ri.All.cons ?_ (Ri.All.cons ?_ (Ri.All.cons ?_ (Ri.All.cons ?_ (Ri.All.cons ?_ (Ri.All.cons ?_ (Ri.All.cons ?_ (Ri.All.cons ?_ (Ri.All.cons ?_ (Ri.All.cons ?_ (Ri.All.cons ?_ (Ri.All.nil))))))))))))))))))))))))))))
    · refine ⟨rfl, fun f W hq hf A hA hB hO => ?_⟩
      have e1 := (hB 0 (by kernel_rfl)).trans (show _ = .pointer (some ⟨g, 0, none⟩) by simp [Act.eval])
      exact Ri.wp_value _ (Ri.run_mv rfl e1) rfl
    · refine ⟨rfl, fun f W hq hf A hA hB hO => ?_⟩
      have e1 := (hA 15 0 (by kernel_rfl) (by simp)).trans (show f 0 = _ from hf 0 (by kernel_rfl))
      exact Ri.wp_value _ (Ri.run_nil rfl e1) rfl
    · refine ⟨rfl, fun f W hq hf A hA hB hO => ?_⟩
      have e1 := (hA 16 1 (by kernel_rfl) (by simp)).trans (show f 1 = _ from hf 1 (by kernel_rfl))
      exact Ri.wp_value _ (Ri.run_fld (f := _) rfl e1 Tryz.underlying62 rfl (sz := 0) (by kernel_rfl)) rfl
    · refine ⟨rfl, fun f W hq hf A hA hB hO => ?_⟩
      have e1 := (hA 17 2 (by kernel_rfl) (by simp)).trans (show f 2 = _ from hf 2 (by kernel_rfl))
      exact Ri.wp_value _ (Ri.run_ld1 rfl e1 Tryz.underlying3 rfl ((((Q.refl w1).drew.trans hq).facts.1 g 2 hgl).trans K2.out)) rfl
    · refine ⟨rfl, fun f W hq hf A hA hB hO => ?_⟩
      have e1 := (hB 0 (by kernel_rfl)).trans (show _ = .pointer (some ⟨g, 0, none⟩) by simp [Act.eval])
      exact Ri.wp_value _ (Ri.run_mv rfl e1) rfl
    · refine ⟨rfl, fun f W hq hf A hA hB hO => ?_⟩
      have e1 := (hA 19 4 (by kernel_rfl) (by simp)).trans (show f 4 = _ from hf 4 (by kernel_rfl))
      exact Ri.wp_value _ (Ri.run_nil rfl e1) rfl
    · refine ⟨rfl, fun f W hq hf A hA hB hO => ?_⟩
      have e1 := (hA 20 5 (by kernel_rfl) (by simp)).trans (show f 5 = _ from hf 5 (by kernel_rfl))
      exact Ri.wp_value _ (Ri.run_fld (f := _) rfl e1 Tryz.underlying62 rfl (sz := 0) (by kernel_rfl)) rfl
    · refine ⟨rfl, fun f W hq hf A hA hB hO => ?_⟩
      have e1 := (hA 21 6 (by kernel_rfl) (by simp)).trans (show f 6 = _ from hf 6 (by kernel_rfl))
      exact Ri.wp_value _ (Ri.run_ld1 rfl e1 Tryz.underlying3 rfl ((((Q.refl w1).drew.trans hq).facts.1 g 3 hgl).trans K3.out)) rfl
    · refine ⟨rfl, fun f W hq hf A hA hB hO => ?_⟩
      have e1 := (hB 0 (by kernel_rfl)).trans (show _ = .pointer (some ⟨g, 0, none⟩) by simp [Act.eval])
      exact Ri.wp_value _ (Ri.run_mv rfl e1) rfl
    · refine ⟨rfl, fun f W hq hf A hA hB hO => ?_⟩
      have e1 := (hA 23 8 (by kernel_rfl) (by simp)).trans (show f 8 = _ from hf 8 (by kernel_rfl))
      exact Ri.wp_value _ (Ri.run_nil rfl e1) rfl
    · refine ⟨rfl, fun f W hq hf A hA hB hO => ?_⟩
      have e1 := (hA 24 9 (by kernel_rfl) (by simp)).trans (show f 9 = _ from hf 9 (by kernel_rfl))
      exact Ri.wp_value _ (Ri.run_fld (f := _) rfl e1 Tryz.underlying62 rfl (sz := 0) (by kernel_rfl)) rfl
    · refine ⟨rfl, fun f W hq hf A hA hB hO => ?_⟩
      have e1 := (hA 25 10 (by kernel_rfl) (by simp)).trans (show f 10 = _ from hf 10 (by kernel_rfl))
      exact Ri.wp_value _ (Ri.run_ld1 rfl e1 Tryz.underlying3 rfl ((((Q.refl w1).drew.trans hq).facts.1 g 7 hgl).trans K7.out)) rfl
    · refine ⟨rfl, fun f W hq hf A hA hB hO => ?_⟩
      have e1 := (hB 0 (by kernel_rfl)).trans (show _ = .pointer (some ⟨g, 0, none⟩) by simp [Act.eval])
      exact Ri.wp_value _ (Ri.run_mv rfl e1) rfl
    · refine ⟨rfl, fun f W hq hf A hA hB hO => ?_⟩
      have e1 := (hA 27 12 (by kernel_rfl) (by simp)).trans (show f 12 = _ from hf 12 (by kernel_rfl))
      exact Ri.wp_value _ (Ri.run_nil rfl e1) rfl
    · refine ⟨rfl, fun f W hq hf A hA hB hO => ?_⟩
      have e1 := (hA 28 13 (by kernel_rfl) (by simp)).trans (show f 13 = _ from hf 13 (by kernel_rfl))
      exact Ri.wp_value _ (Ri.run_fld (f := _) rfl e1 Tryz.underlying62 rfl (sz := 0) (by kernel_rfl)) rfl
    · refine ⟨rfl, fun f W hq hf A hA hB hO => ?_⟩
      have e1 := (hA 29 14 (by kernel_rfl) (by simp)).trans (show f 14 = _ from hf 14 (by kernel_rfl))
      exact Ri.wp_value _ (Ri.run_ld1 rfl e1 Tryz.underlying3 rfl ((((Q.refl w1).drew.trans hq).facts.1 g 8 hgl).trans K8.out)) rfl
    · refine ⟨rfl, fun f W hq hf A hA hB hO => ?_⟩
      have e1 := (hB 0 (by kernel_rfl)).trans (show _ = .pointer (some ⟨g, 0, none⟩) by simp [Act.eval])
      exact Ri.wp_value _ (Ri.run_mv rfl e1) rfl
    · refine ⟨rfl, fun f W hq hf A hA hB hO => ?_⟩
      have e1 := (hA 31 16 (by kernel_rfl) (by simp)).trans (show f 16 = _ from hf 16 (by kernel_rfl))
      exact Ri.wp_value _ (Ri.run_nil rfl e1) rfl
    · refine ⟨rfl, fun f W hq hf A hA hB hO => ?_⟩
      have e1 := (hA 32 17 (by kernel_rfl) (by simp)).trans (show f 17 = _ from hf 17 (by kernel_rfl))
      exact Ri.wp_value _ (Ri.run_fld (f := _) rfl e1 Tryz.underlying62 rfl (sz := 0) (by kernel_rfl)) rfl
    · refine ⟨rfl, fun f W hq hf A hA hB hO => ?_⟩
      have e1 := (hA 33 18 (by kernel_rfl) (by simp)).trans (show f 18 = _ from hf 18 (by kernel_rfl))
      exact Ri.wp_value _ (Ri.run_ld1 rfl e1 Tryz.underlying3 rfl ((((Q.refl w1).drew.trans hq).facts.1 g 9 hgl).trans K9.out)) rfl
    · refine ⟨rfl, fun f W hq hf A hA hB hO => ?_⟩
      have e1 := (hB 0 (by kernel_rfl)).trans (show _ = .pointer (some ⟨g, 0, none⟩) by simp [Act.eval])
      exact Ri.wp_value _ (Ri.run_mv rfl e1) rfl
    · refine ⟨rfl, fun f W hq hf A hA hB hO => ?_⟩
      have e1 := (hA 35 20 (by kernel_rfl) (by simp)).trans (show f 20 = _ from hf 20 (by kernel_rfl))
      exact Ri.wp_value _ (Ri.run_nil rfl e1) rfl
    · refine ⟨rfl, fun f W hq hf A hA hB hO => ?_⟩
      have e1 := (hA 36 21 (by kernel_rfl) (by simp)).trans (show f 21 = _ from hf 21 (by kernel_rfl))
      exact Ri.wp_value _ (Ri.run_fld (f := _) rfl e1 Tryz.underlying62 rfl (sz := 1) (by kernel_rfl)) rfl
    · refine ⟨rfl, fun f W hq hf A hA hB hO => ?_⟩
      have e1 := (hA 37 22 (by kernel_rfl) (by simp)).trans (show f 22 = _ from hf 22 (by kernel_rfl))
      exact Ri.wp_value _ (Ri.run_fld (f := _) rfl e1 Tryz.underlying51 rfl (sz := 0) (by kernel_rfl)) rfl
    · refine ⟨rfl, fun f W hq hf A hA hB hO => ?_⟩
      have e1 := (hA 38 23 (by kernel_rfl) (by simp)).trans (show f 23 = _ from hf 23 (by kernel_rfl))
      exact Ri.wp_value _ (Ri.run_ld1 rfl e1 Tryz.underlying3 rfl ((((Q.refl w1).drew.trans hq).facts.1 g 4 hgl).trans K4.out)) rfl
    · refine ⟨rfl, fun f W hq hf A hA hB hO => ?_⟩
      have e1 := (hA 39 24 (by kernel_rfl) (by simp)).trans (show f 24 = _ from hf 24 (by kernel_rfl))
      exact Ri.wp_struct rfl [(0, .int .i64 sz)] (by simp [e1]) (by kernel_rfl) rfl
    · refine ⟨rfl, fun f W hq hf A hA hB hO => ?_⟩
      have e1 := (hA 18 3 (by kernel_rfl) (by simp)).trans (show f 3 = _ from hf 3 (by kernel_rfl))
      have e2 := (hA 22 7 (by kernel_rfl) (by simp)).trans (show f 7 = _ from hf 7 (by kernel_rfl))
      have e3 := (hA 26 11 (by kernel_rfl) (by simp)).trans (show f 11 = _ from hf 11 (by kernel_rfl))
      have e4 := (hA 30 15 (by kernel_rfl) (by simp)).trans (show f 15 = _ from hf 15 (by kernel_rfl))
      have e5 := (hA 34 19 (by kernel_rfl) (by simp)).trans (show f 19 = _ from hf 19 (by kernel_rfl))
      have e6 := (hA 40 25 (by kernel_rfl) (by simp)).trans (show f 25 = _ from hf 25 (by kernel_rfl))
      exact Ri.wp_struct rfl [(1, .int .i64 kd), (2, .int .i64 pce), (5, .int .i64 pk), (6, .int .i64 cl), (7, .int .i64 fi), (3, .agg #[.int .i64 sz, .slice none 0 0])] (by simp [e1, e2, e3, e4, e5, e6]) (by kernel_rfl) rfl
    · refine ⟨rfl, fun f W hq hf A hA hB hO => ?_⟩
      have e1 := (hA 41 26 (by kernel_rfl) (by simp)).trans (show f 26 = _ from hf 26 (by kernel_rfl))
      exact Ri.wp_box rfl e1 ⟨W.heap.size, rfl, (((Q.refl w1).drew.trans hq)).size, heap_alloc_new _ _⟩
  · intro f W2 hq hf A' hAe hA hB
    have hqw : Q w1 W2 := hq
    obtain ⟨g2, hv, hg2, hblk⟩ : isBox w1.heap.size #[.int .i32 0, .int .u32 0, .int .i64 kd, .int .i64 pce, .int .i64 sz, .slice none 0 0, .nilIface, .int .i64 pk, .int .i64 cl, .int .i64 fi] 62 (f 27) W2 := hf 27 (by simp)
    have e1 := (hA 42 27 (by kernel_rfl) (by simp)).trans hv
    refine Ri.wp_lastv (Ri.run_asg rfl e1) ?_
    show Exit.then _ _ _ (Act.put A' (some 3) _) W2
    rw [hAe]
    simp only [Ri.acts, Act.put, List.setIfInBounds_toArray, List.set_cons_zero, List.set_cons_succ]
    have HP2 : Hid (PartR W2 w1.heap.size g2 h 0 (.slice none 0 0) []) := by
      rw [HC0.out] at hblk
      exact ⟨hblk, hg2, World.ownsRow_nil _ _ _ _, by simp, rfl, (fun x hx => by cases hx), List.nodup_nil⟩
    have HQ2 := hide hqw
    have k5 := (hqw.facts.1 g 5 hgl).trans K5.out
    clear hf hA hB hAe e1 hq hqw hv hblk
    go_wp2_with fail
    go_loopw [49] (fun v wr => CopyRel w1 g2 h N v wr) (fun v _ => N - (intOf v).toNat)
    case atStart => exact ⟨0, Nat.zero_le _, by go_num, hide ⟨_, _, HP2.out⟩, HQ2.out⟩
    case round =>
      obtain ⟨k, hk, rfl, HP, hqr⟩ := hrel
      have hszr := hqr.size
      have hgr : g < wr.heap.size := by omega
      by_cases hlt : k < N
      · have hd1 : decide ((k : Int) < (N : Int)) = true := by simp; omega
        have hd0 : decide (k < N) = true := by simp; omega
        have hlti : (k : Int) < (N : Int) := by omega
        obtain ⟨lv, bs, hp⟩ := HP.out
        obtain ⟨bB, oB, ⟨⟨xa, xl⟩, row, cap⟩, hA0, hbB, hx, x0, x1⟩ := (HS.out.up hqr).bk k hlt
        dsimp only at hA0 x0 x1
        subst hA0
        have hpx : (h.bks.map (·.pb))[k]? = some (xa, xl) := by rw [List.getElem?_map, hx]; rfl
        have hrx := (HD1.out.rep.q hqr).rows _ (List.mem_of_getElem? hx)
        have hrd : Rd wr wr.heap.size (some ⟨row, 0, none⟩) (intsV xl) := own_rd hrx
        have hxl := (HN2.out _ (List.mem_of_getElem? hx)).2.2
        dsimp only at hxl
        have HI0 : Hid (0 < xl.length) := (HI.out.fit.inn (xa, xl) (List.mem_of_getElem? hpx)).2.1
        obtain ⟨m, hm⟩ : ∃ m, m = xl.length := ⟨_, rfl⟩
        rw [← hm] at x1 hxl
        obtain ⟨w5, hw5⟩ : ∃ w5, wr.alloc (.cells #[.int .i64 xa, .slice (some ⟨row, 0, none⟩) m cap] 90) = w5 := ⟨_, rfl⟩
        have hq5 : Q wr w5 := by rw [← hw5]; exact (Q.refl wr).alloc _
        have B5 : Hid (w5.heap[wr.heap.size]? = some (.cells #[.int .i64 xa, .slice (some ⟨row, 0, none⟩) m cap] 90 (0, 0))) := by rw [← hw5]; exact heap_alloc_new wr _
        have HW5 := hide hw5
        have hp5 := hp.q hq5
        have HP5 := hide hp5
        have HPX := hide hpx
        have HMM := hide hm
        have HQ5 := hide (hqr.trans hq5)
        have HCI : Hid (∀ W, Q w5 W → Calls Tryz.prog 37 #[.slice (some ⟨row, 0, none⟩) m cap] W fun e w' => ∃ v, e = .returned v ∧ w'.ownsRow W.heap.size 3 1 v m (intsV xl) ∧ Q W w') := fun W hq => cloneI_any row m cap xl W hm.symm (by
          have := hrd.up (hq5.trans hq)
          exact this) (by omega)
        obtain ⟨la, ln, lc, hlv⟩ : ∃ A n c, lv = .slice A n c := by
          obtain ⟨A', c', e, -⟩ := own_form hp.live
          exact ⟨A', _, c', e⟩
        have hg25 : g2 < w5.heap.size := blk_lt hp5.blk
        have L5 : Hid (w5.cell? ⟨g2, 5, none⟩ = some lv) := by rw [cell_of_row _ _ _ _ _ _ hp5.blk]; exact hide rfl
        have hB5 : w1.heap.size ≤ w5.heap.size := HQ5.out.size
        clear hx hpx hrx hrd hm hw5 hq5 hp hp5 HP
        go_wp2_with fail
        rw [HW5.out]
        refine Ri.called_last 13 [0, 14, 15, 16] (Ri.phi [Ri.isV (.pointer (some ⟨g2, 0, none⟩)), Ri.isV (.pointer (some ⟨g2, 0, none⟩)), Ri.isV (.pointer (some ⟨g2, 0, none⟩)), Ri.isV (.pointer (some ⟨g2, 4, none⟩)), Ri.isV (.pointer (some ⟨g2, 5, none⟩)), Ri.isV (lv), Ri.isV (.pointer (some ⟨wr.heap.size, 0, none⟩)), Ri.isV (.int .i64 xa), Ri.isV (.pointer (some ⟨wr.heap.size, 1, none⟩)), Ri.isV (.slice (some ⟨row, 0, none⟩) m cap), isOwnI w5.heap.size m (intsV xl), isCv w5.heap.size m xl xa, isCs w5.heap.size m xl xa, fun _ _ => True, Ri.isV (.pointer (some ⟨g2, 0, none⟩)), Ri.isV (.pointer (some ⟨g2, 4, none⟩)), Ri.isV (.pointer (some ⟨g2, 5, none⟩))]) (CopyMid w5 w1.heap.size lv k (bs.flatMap encBk) xa xl) (by kernel_rfl) (by kernel_rfl) rfl (by kernel_rfl) rfl (by decide) (by kernel_rfl) (Ri.phi_mono ?_) ?_ ?_ ?_
        · exact ⟨Ri.mono_isV _, Ri.mono_isV _, Ri.mono_isV _, Ri.mono_isV _, Ri.mono_isV _, Ri.mono_isV _, Ri.mono_isV _, Ri.mono_isV _, Ri.mono_isV _, Ri.mono_isV _, mono_ownI _ _ _, mono_isCv _ _ _ _, mono_isCs _ _ _ _, fun _ _ _ h _ => h, Ri.mono_isV _, Ri.mono_isV _, Ri.mono_isV _, trivial⟩
        · intro i v w1 w2 hk hv
          match i, hk, hv with
          | 0, _, hv => exact hv
          | 1, hk, _ => exact absurd hk (by decide)
          | 2, hk, _ => exact absurd hk (by decide)
          | 3, hk, _ => exact absurd hk (by decide)
          | 4, hk, _ => exact absurd hk (by decide)
          | 5, hk, _ => exact absurd hk (by decide)
          | 6, hk, _ => exact absurd hk (by decide)
          | 7, hk, _ => exact absurd hk (by decide)
          | 8, hk, _ => exact absurd hk (by decide)
          | 9, hk, _ => exact absurd hk (by decide)
          | 10, hk, _ => exact absurd hk (by decide)
          | 11, hk, _ => exact absurd hk (by decide)
          | 12, hk, _ => exact absurd hk (by decide)
          | 13, hk, _ => exact absurd hk (by decide)
          | 14, _, hv => exact hv
          | 15, _, hv => exact hv
          | 16, _, hv => exact hv
          | i + 17, hk, _ => exact absurd hk (by unfold Ri.kindOf; rw [if_neg (by omega), if_neg (by first | (simp; done) | (simp; omega))]; decide)
        · refine Ri.All.cons ?_ (Ri.All.cons ?_ (Ri.All.cons ?_ (Ri.All.cons ?_ (Ri.All.cons ?_ (Ri.All.cons ?_ (Ri.All.cons ?_ (Ri.All.cons ?_ (Ri.All.cons ?_ (Ri.All.cons ?_ (Ri.All.cons ?_ (Ri.All.cons ?_ (Ri.All.cons ?_ (Ri.All.cons ?_ (Ri.All.cons ?_ (Ri.All.cons ?_ (Ri.All.cons ?_ (Ri.All.nil)))))))))))))))))
          · refine Ri.StepK.p (by decide) ⟨rfl, fun f W hf A hA hB => ?_⟩
            have e1 := (hB 3 (by kernel_rfl)).trans (show _ = .pointer (some ⟨g2, 0, none⟩) by simp [Act.eval])
            exact Ri.wp_pure _ (Ri.run_mv rfl e1) rfl
          · refine Ri.StepK.g (by decide) ⟨rfl, fun f W hq hf A hA hB hO => ?_⟩
            have e1 := (hB 3 (by kernel_rfl)).trans (show _ = .pointer (some ⟨g2, 0, none⟩) by simp [Act.eval])
            exact Ri.wp_value _ (Ri.run_mv rfl e1) rfl
          · refine Ri.StepK.g (by decide) ⟨rfl, fun f W hq hf A hA hB hO => ?_⟩
            have e1 := (hA 54 1 (by kernel_rfl) (by simp)).trans (show f 1 = _ from hf 1 (by kernel_rfl))
            exact Ri.wp_value _ (Ri.run_nil rfl e1) rfl
          · refine Ri.StepK.g (by decide) ⟨rfl, fun f W hq hf A hA hB hO => ?_⟩
            have e1 := (hA 55 2 (by kernel_rfl) (by simp)).trans (show f 2 = _ from hf 2 (by kernel_rfl))
            exact Ri.wp_value _ (Ri.run_fld (f := _) rfl e1 Tryz.underlying62 rfl (sz := 1) (by kernel_rfl)) rfl
          · refine Ri.StepK.g (by decide) ⟨rfl, fun f W hq hf A hA hB hO => ?_⟩
            have e1 := (hA 56 3 (by kernel_rfl) (by simp)).trans (show f 3 = _ from hf 3 (by kernel_rfl))
            exact Ri.wp_value _ (Ri.run_fld (f := _) rfl e1 Tryz.underlying51 rfl (sz := 0) (by kernel_rfl)) rfl
          · refine Ri.StepK.g (by decide) ⟨rfl, fun f W hq hf A hA hB hO => ?_⟩
            have e1 := (hA 57 4 (by kernel_rfl) (by simp)).trans (show f 4 = _ from hf 4 (by kernel_rfl))
            exact Ri.wp_value _ (Ri.run_ld1 rfl e1 Tryz.underlying49 rfl ((((Q.refl w5).drew.trans hq).facts.1 g2 5 hg25).trans L5.out)) rfl
          · refine Ri.StepK.g (by decide) ⟨rfl, fun f W hq hf A hA hB hO => ?_⟩
            have e1 := (hB 5 (by kernel_rfl)).trans (show _ = .pointer (some ⟨wr.heap.size, 0, none⟩) by simp [Act.eval])
            exact Ri.wp_value _ (Ri.run_fld (f := _) rfl e1 Tryz.underlying90 rfl (sz := 0) (by kernel_rfl)) rfl
          · refine Ri.StepK.g (by decide) ⟨rfl, fun f W hq hf A hA hB hO => ?_⟩
            have e1 := (hA 59 6 (by kernel_rfl) (by simp)).trans (show f 6 = _ from hf 6 (by kernel_rfl))
            exact Ri.wp_value _ (Ri.run_ld1 rfl e1 Tryz.underlying3 rfl ((show W.cell? ⟨wr.heap.size, 0, none⟩ = _ by rw [cell_of_row _ _ _ _ _ _ ((((Q.refl w5).drew.trans hq).below.block _ (blk_lt B5.out)).trans B5.out)]; rfl))) rfl
          · refine Ri.StepK.g (by decide) ⟨rfl, fun f W hq hf A hA hB hO => ?_⟩
            have e1 := (hB 5 (by kernel_rfl)).trans (show _ = .pointer (some ⟨wr.heap.size, 0, none⟩) by simp [Act.eval])
            exact Ri.wp_value _ (Ri.run_fld (f := _) rfl e1 Tryz.underlying90 rfl (sz := 0) (by kernel_rfl)) rfl
          · refine Ri.StepK.g (by decide) ⟨rfl, fun f W hq hf A hA hB hO => ?_⟩
            have e1 := (hA 61 8 (by kernel_rfl) (by simp)).trans (show f 8 = _ from hf 8 (by kernel_rfl))
            exact Ri.wp_value _ (Ri.run_ld1 rfl e1 Tryz.underlying30 rfl ((show W.cell? ⟨wr.heap.size, 1, none⟩ = _ by rw [cell_of_row _ _ _ _ _ _ ((((Q.refl w5).drew.trans hq).below.block _ (blk_lt B5.out)).trans B5.out)]; rfl))) rfl
          · refine Ri.StepK.g (by decide) ⟨rfl, fun f W hq hf A hA hB hO => ?_⟩
            have e1 := (hA 62 9 (by kernel_rfl) (by simp)).trans (show f 9 = _ from hf 9 (by kernel_rfl))
            refine Ri.wp_call #[.slice (some ⟨row, 0, none⟩) m cap] rfl (by simp [e1]) Tryz.func37 (by kernel_rfl) (by kernel_rfl) ((HCI.out W ((Q.refl w5).drew.trans hq)).mono ?_)
            rintro e w3 ⟨v, rfl, ho, hq3⟩
            exact ⟨v, rfl, hq3, own_low ho (((Q.refl w5).drew.trans hq)).size⟩
          · refine Ri.StepK.g (by decide) ⟨rfl, fun f W hq hf A hA hB hO => ?_⟩
            have e1 := (hA 60 7 (by kernel_rfl) (by simp)).trans (show f 7 = _ from hf 7 (by kernel_rfl))
            have hco : W.ownsRow w5.heap.size 3 1 (f 10) m (intsV xl) := hf 10 (by kernel_rfl)
            have e2 := hA 63 10 (by kernel_rfl) (by simp)
            obtain ⟨cv, hcv⟩ : ∃ cv, cv = f 10 := ⟨_, rfl⟩
            rw [← hcv] at hco e2
            obtain ⟨cA, cC, hcf, -⟩ := own_form hco
            subst hcf
            exact Ri.wp_struct rfl [(0, .int .i64 xa), (1, .slice cA m cC)] (by simp [e1, e2]) (by kernel_rfl) ⟨_, rfl, hco⟩
          · refine Ri.StepK.g (by decide) ⟨rfl, fun f W hq hf A hA hB hO => ?_⟩
            obtain ⟨cv, hcv, hco⟩ : isCv w5.heap.size m xl xa (f 11) W := hf 11 (by kernel_rfl)
            have e1 := (hA 64 11 (by kernel_rfl) (by simp)).trans hcv
            obtain ⟨cA, cC, hcf, -⟩ := own_form hco
            subst hcf
            obtain ⟨i, hi, hz, hsz, hby⟩ := info_parts (show (Tryz.prog.info? 90).map (fun i => (i.zero, i.size, i.bytes)) = some (some (.agg #[.int .i64 0, .slice none 0 0]), 2, 32) by kernel_rfl)
            refine wp_buildSlice 49 90 1 _ rfl #[.int .i64 xa, .slice cA m cC] i _ Tryz.underlying49 hi hz (by rw [hsz]; decide) (by rw [hsz]; decide) ?_ ⟨_, rfl, (Q.refl W).alloc _, W.heap.size, _, rfl, ((Q.refl w5).drew.trans hq).size, heap_alloc_new W _, own_q hco ((Q.refl W).alloc _)⟩
            rw [hsz]
            simp only [List.map_toArray, List.map_cons, List.map_nil, e1]
            exact fill_bk _ _
          · refine Ri.StepK.w (by decide) ⟨rfl, fun f W hq hf A hA hB => ?_⟩
            obtain ⟨b, cv, hv, hb, hbc, hco⟩ : isCs w5.heap.size m xl xa (f 12) W := hf 12 (by kernel_rfl)
            have e1 := (hA 58 5 (by kernel_rfl) (by simp)).trans (show f 5 = _ from hf 5 (by kernel_rfl))
            have e2 := (hA 65 12 (by kernel_rfl) (by simp)).trans hv
            have hqW : Q w5 W := ((Q.refl w5).drew.trans hq)
            obtain ⟨cA, cC, hcf, hcn, -⟩ := own_form hco
            have hpW := HP5.out.q hqW
            have hrow : ∀ g3, (Value.slice cA m cC).ownBlock = some g3 → w5.heap.size ≤ g3 := fun g3 e => by rw [← hcf] at e; exact (hco.lt g3 e).1
            refine Ri.wp_appW El_bk _ _ rfl e1 hpW.live e2 (news := [.int .i64 xa, cv]) (by simp) (.inr ⟨b, 0, rfl, blk_lt hbc, fun j u hu => by rw [Nat.zero_add, cell_of_row _ _ _ _ _ _ hbc]; simpa using hu⟩) ?_ (by omega) (by have := hqW.size; omega) (fun v2 w3 h1 h2 => ?_)
            · intro u hu
              rw [hcf] at hu
              simp at hu
              rcases hu with rfl | rfl <;> simp [Value.oneCell']
            · have hmp : 0 < m ∨ m = 0 := by omega
              have hco3 : w3.ownsRow w5.heap.size 3 1 cv m (intsV xl) := own_same hco fun g3 hg3 => h2.block _ (hco.lt g3 hg3).2 (fun e => by have h5 := (HP5.out.live.lt g3 e.symm).2; have h6 := (hco.lt g3 hg3).1; omega)
              have hgw : w5.grownBy w3 lv.ownBlock := ⟨h2.os.trans hqW.below.os, h2.tape.trans hqW.below.tape, h2.output.trans hqW.below.output, Nat.le_trans hqW.size h2.size, fun i hi hn => (h2.block i (Nat.lt_of_lt_of_le hi hqW.size) hn).trans (hqW.below.block i hi)⟩
              refine copyMid_of HP5.out h1 hco3 hgw HMM.out HI0.out
          · refine Ri.StepK.p (by decide) ⟨rfl, fun f W hf A hA hB => ?_⟩
            have e1 := (hA 53 0 (by kernel_rfl) (by simp)).trans (show f 0 = _ from hf 0 (by kernel_rfl) (by decide))
            exact Ri.wp_pure _ (Ri.run_nil rfl e1) rfl
          · refine Ri.StepK.p (by decide) ⟨rfl, fun f W hf A hA hB => ?_⟩
            have e1 := (hA 67 14 (by kernel_rfl) (by simp)).trans (show f 14 = _ from hf 14 (by kernel_rfl) (by decide))
            exact Ri.wp_pure _ (Ri.run_fld (f := _) rfl e1 Tryz.underlying62 rfl (sz := 1) (by kernel_rfl)) rfl
          · refine Ri.StepK.p (by decide) ⟨rfl, fun f W hf A hA hB => ?_⟩
            have e1 := (hA 68 15 (by kernel_rfl) (by simp)).trans (show f 15 = _ from hf 15 (by kernel_rfl) (by decide))
            exact Ri.wp_pure _ (Ri.run_fld (f := _) rfl e1 Tryz.underlying51 rfl (sz := 0) (by kernel_rfl)) rfl
        · intro f W6 hP hpu A' hAe hA hB
          obtain ⟨v, hv⟩ : ∃ v, v = f 13 := ⟨_, rfl⟩
          rw [← hv] at hP
          obtain ⟨hstep, hc5, hf5, ⟨sA, sn, sc, hvs⟩, hqs⟩ := HP5.out.step hB5 HPX.out hP
          have e1 := (hA 69 16 (by kernel_rfl) (by simp)).trans (show f 16 = _ from hpu 16 (by simp) (by decide))
          have e2 := (hA 66 13 (by kernel_rfl) (by simp)).trans hv.symm
          refine Ri.wp_store rfl e1 e2 rfl (by kernel_rfl) (by rw [hvs]; rfl) (by rw [hvs]; simp [Value.oneCell']) hc5 hf5 ?_
          rw [hAe]
          simp only [Ri.acts, Act.put, List.setIfInBounds_toArray, List.set_cons_zero, List.set_cons_succ]
          have HST := hide hstep
          have HQS := hide (hqs w1 rfl HQ5.out)
          clear hpu hA hB hAe e1 e2 hP hstep hqs hvs hc5 hf5 hv HP5 B5 L5 HCI
          go_wp2_with fail
          go_roundw
          case rel => exact ⟨k + 1, by omega, by go_num, hide (by obtain ⟨bs', h'⟩ := HST.out; exact ⟨_, bs', h'⟩), HQS.out⟩
          case measure => simp [intOf] <;> omega
      · have hd1 : decide ((k : Int) < (N : Int)) = false := by simp; omega
        have hd0 : decide (k < N) = false := by simp; omega
        obtain rfl : k = N := by omega
        obtain ⟨lv, bs, hp⟩ := HP.out
        have hgb : wr.heap[g2]? = some (.cells (partCells h lv) 62 (0, 0)) := hp.blk
        have hg2r : g2 < wr.heap.size := blk_lt hgb
        have HPP := hide hp
        have hgg : w1.heap.size ≤ g2 := hp.low
        have HQR := hide hqr
        clear hp hgb
        go_wp2_with fail
        refine Ri.made_last (Ri.phi [Ri.isV (.pointer (some ⟨g2, 0, none⟩)), Ri.isV (.pointer (some ⟨g, 0, none⟩)), Ri.isV (.pointer (some ⟨g, 0, none⟩)), Ri.isV (.pointer (some ⟨g, 6, none⟩)), Ri.isV (.iface ty u), Ri.isV (.pointer (some ⟨g2, 0, none⟩)), Ri.isV (.pointer (some ⟨g2, 0, none⟩)), Ri.isV (.pointer (some ⟨g2, 4, none⟩)), Ri.isV (.iface ty u), Ri.isV (.iface ty u), isWay h w1.heap.size g2, Ri.isV (.pointer (some ⟨g2, 0, none⟩)), Ri.isV (.pointer (some ⟨g2, 6, none⟩))]) (by kernel_rfl) (by kernel_rfl) rfl (by kernel_rfl) rfl (Ri.phi_mono ?_) ?_ ?_
        · exact ⟨Ri.mono_isV _, Ri.mono_isV _, Ri.mono_isV _, Ri.mono_isV _, Ri.mono_isV _, Ri.mono_isV _, Ri.mono_isV _, Ri.mono_isV _, Ri.mono_isV _, Ri.mono_isV _, mono_isWay _ _ _, Ri.mono_isV _, Ri.mono_isV _, trivial⟩
        · refine Ri.All.cons ?_ (Ri.All.cons ?_ (Ri.All.cons ?_ (Ri.All.cons ?_ (Ri.All.cons ?_ (Ri.All.cons ?_ (Ri.All.cons ?_ (Ri.All.cons ?_ (Ri.All.cons ?_ (Ri.All.cons ?_ (Ri.All.cons ?_ (Ri.All.cons ?_ (Ri.All.cons ?_ (Ri.All.nil)))))))))))))
          · refine ⟨rfl, fun f W hq hf A hA hB hO => ?_⟩
            have e1 := (hB 3 (by kernel_rfl)).trans (show _ = .pointer (some ⟨g2, 0, none⟩) by simp [Act.eval])
            exact Ri.wp_value _ (Ri.run_mv rfl e1) rfl
          · refine ⟨rfl, fun f W hq hf A hA hB hO => ?_⟩
            have e1 := (hB 0 (by kernel_rfl)).trans (show _ = .pointer (some ⟨g, 0, none⟩) by simp [Act.eval])
            exact Ri.wp_value _ (Ri.run_mv rfl e1) rfl
          · refine ⟨rfl, fun f W hq hf A hA hB hO => ?_⟩
            have e1 := (hA 72 1 (by kernel_rfl) (by simp)).trans (show f 1 = _ from hf 1 (by kernel_rfl))
            exact Ri.wp_value _ (Ri.run_nil rfl e1) rfl
          · refine ⟨rfl, fun f W hq hf A hA hB hO => ?_⟩
            have e1 := (hA 73 2 (by kernel_rfl) (by simp)).trans (show f 2 = _ from hf 2 (by kernel_rfl))
            exact Ri.wp_value _ (Ri.run_fld (f := _) rfl e1 Tryz.underlying62 rfl (sz := 0) (by kernel_rfl)) rfl
          · refine ⟨rfl, fun f W hq hf A hA hB hO => ?_⟩
            have e1 := (hA 74 3 (by kernel_rfl) (by simp)).trans (show f 3 = _ from hf 3 (by kernel_rfl))
            exact Ri.wp_value _ (Ri.run_ld1 rfl e1 Tryz.underlying60 rfl (((HQR.out.trans ((Q.refl wr).drew.trans hq)).facts.1 g 6 hgl).trans K6.out)) rfl
          · refine ⟨rfl, fun f W hq hf A hA hB hO => ?_⟩
            have e1 := (hB 3 (by kernel_rfl)).trans (show _ = .pointer (some ⟨g2, 0, none⟩) by simp [Act.eval])
            exact Ri.wp_value _ (Ri.run_mv rfl e1) rfl
          · refine ⟨rfl, fun f W hq hf A hA hB hO => ?_⟩
            have e1 := (hA 76 5 (by kernel_rfl) (by simp)).trans (show f 5 = _ from hf 5 (by kernel_rfl))
            exact Ri.wp_value _ (Ri.run_nil rfl e1) rfl
          · refine ⟨rfl, fun f W hq hf A hA hB hO => ?_⟩
            have e1 := (hA 77 6 (by kernel_rfl) (by simp)).trans (show f 6 = _ from hf 6 (by kernel_rfl))
            exact Ri.wp_value _ (Ri.run_fld (f := _) rfl e1 Tryz.underlying62 rfl (sz := 1) (by kernel_rfl)) rfl
          · refine ⟨rfl, fun f W hq hf A hA hB hO => ?_⟩
            have e1 := (hA 75 4 (by kernel_rfl) (by simp)).trans (show f 4 = _ from hf 4 (by kernel_rfl))
            exact Ri.wp_value _ (Ri.run_nilI rfl e1) rfl
          · refine ⟨rfl, fun f W hq hf A hA hB hO => ?_⟩
            have e1 := (hA 75 4 (by kernel_rfl) (by simp)).trans (show f 4 = _ from hf 4 (by kernel_rfl))
            exact Ri.wp_value _ (Ri.run_mv rfl e1) rfl
          · refine ⟨rfl, fun f W hq hf A hA hB hO => ?_⟩
            have e1 := (hA 80 9 (by kernel_rfl) (by simp)).trans (show f 9 = _ from hf 9 (by kernel_rfl))
            have e2 := (hA 78 7 (by kernel_rfl) (by simp)).trans (show f 7 = _ from hf 7 (by kernel_rfl))
            have hqW : Q w1 W := HQR.out.trans ((Q.refl wr).drew.trans hq)
            refine Ri.wp_invokeW rfl e1 (by kernel_rfl) hmC heC #[.pointer (some ⟨g2, 4, none⟩)] (by simp [e2]) ((HCLN.out g2 W hqW).mono ?_)
            rintro e w3 ⟨wb, rfl, hq3, h1, h2, h3⟩
            exact ⟨_, rfl, hq3, wb, rfl, fun e => Nat.le_trans hqW.size (h1 e), h2, h3⟩
          · refine ⟨rfl, fun f W hq hf A hA hB hO => ?_⟩
            have e1 := (hA 71 0 (by kernel_rfl) (by simp)).trans (show f 0 = _ from hf 0 (by kernel_rfl))
            exact Ri.wp_value _ (Ri.run_nil rfl e1) rfl
          · refine ⟨rfl, fun f W hq hf A hA hB hO => ?_⟩
            have e1 := (hA 82 11 (by kernel_rfl) (by simp)).trans (show f 11 = _ from hf 11 (by kernel_rfl))
            exact Ri.wp_value _ (Ri.run_fld (f := _) rfl e1 Tryz.underlying62 rfl (sz := 0) (by kernel_rfl)) rfl
        · intro f W8 hq hf A' hAe hA hB
          have hqw : Q wr W8 := hq
          obtain ⟨v, hv⟩ : ∃ v, v = f 10 := ⟨_, rfl⟩
          have hW : isWay h w1.heap.size g2 v W8 := by rw [hv]; exact hf 10 (by simp)
          have hp8 := HPP.out.q hqw
          obtain ⟨ty2, u2, hvi⟩ : ∃ ty u, v = .iface ty u := by
            obtain ⟨wb, e, -⟩ := hW
            rw [e]
            exact wayAt_iface h HI.out.kind g2 wb
          have e1 := (hA 83 12 (by kernel_rfl) (by simp)).trans (show f 12 = _ from hf 12 (by simp))
          have e2 := (hA 81 10 (by kernel_rfl) (by simp)).trans hv.symm
          have c6 : W8.cell? ⟨g2, 6, none⟩ = some .nilIface := by rw [cell_of_row _ _ _ _ _ _ hp8.blk]; rfl
          have f6 : W8.frozen? ⟨g2, 6, none⟩ = false := frozen_of_row _ _ _ _ _ hp8.blk
          refine Ri.wp_store rfl e1 e2 rfl (by kernel_rfl) (by rw [hvi]; rfl) (by rw [hvi]; simp [Value.oneCell']) c6 f6 ?_
          rw [HNN.out] at hp8
          obtain ⟨h2, hR2, hb2, hmu2, hm2, hfp2⟩ := hp8.whole hW
          obtain ⟨w9, hw9⟩ : ∃ w9, w9 = W8.setCell ⟨g2, 6, none⟩ v := ⟨_, rfl⟩
          have hq19 : Q w1 w9 := by rw [hw9]; exact (HQR.out.trans hqw).set (by show w1.heap.size ≤ g2; exact hgg) _
          rw [← hw9] at hR2 ⊢
          have hfin : CopyPost w h (.returned (.pointer (some ⟨g2, 0, none⟩))) (w9.setCell ⟨g, 0, none⟩ (.int .i32 0)) := by
            have D := HD1.out.q hq19
            refine ⟨unlocked (locked h), h2, by unfold Hp.ptr; rw [hb2], ?_, rfl, rfl, ?_, hmu2, hm2, (fun b hb => by rw [← hsz1]; exact hfp2 b hb), fun b hb => hb⟩
            · have := D.lock 0
              rw [show (locked h).blk = g from HG.out.symm] at this
              rw [HG.out] at this ⊢
              exact this
            · exact hR2.same fun b hb => heap_setCell_other _ _ _ _ (by have := hfp2 b hb; show b ≠ g; omega)
          have FIN := hide hfin
          have KMU := hide (KM.out _ _ (HD1.out.q hq19) HG.out.symm rfl).1
          have KFR := hide (KM.out _ _ (HD1.out.q hq19) HG.out.symm rfl).2
          rw [hAe]
          simp only [Ri.acts, Act.put, List.setIfInBounds_toArray, List.set_cons_zero, List.set_cons_succ]
          clear hf hA hB hAe e1 e2 hq hqw hW hp8 hvi hv c6 f6 hR2 hb2 hmu2 hm2 hfp2 hw9 hq19 hfin hmC heC
          go_wp2_with fail
          refine leaves_cons (f := 36) (args := #[.pointer (some ⟨g, 0, none⟩)]) (by simp) (by simp [go_sem]) ?_
          refine (Go.MuLone.unlock_deferred muLib ⟨g, 0, none⟩ .returning _ KMU.out KFR.out).mono ?_
          rintro e u' w9 ⟨rfl, rfl, rfl⟩
          refine ⟨_, results_tmp rfl _ _ _, ?_⟩
          exact FIN.out
end Go.Proofs.YtegpkcbmgjoicaaGreat
