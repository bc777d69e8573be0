/- The law ListQueues, walked. Conditions: the slice reads as acts. -/
import Derived.Test.YtdaklffbfadghaaGreatLsU20
import Derived.Test.YtdaklffbfadghaaGreatMp
namespace Go.Proofs.YtdaklffbfadghaaGreat
open Go.RowKit HP
set_option linter.unusedVariables false
set_option linter.unusedSimpArgs false
def isPairQ (B n : Nat) (xs ys : List Value) (v : Value) (W : World) : Prop := ∃ u1 u2, v = .agg #[u1, u2] ∧ W.ownsRow B 3 1 u1 n xs ∧ W.ownsRow B 3 1 u2 n ys ∧ ∀ g, u1.ownBlock = some g → u2.ownBlock ≠ some g
theorem mono_pairQ (B n : Nat) (xs ys : List Value) : Ri.Mono (isPairQ B n xs ys) := fun _ _ _ ⟨u1, u2, e, h1, h2, h3⟩ hq => ⟨u1, u2, e, own_q h1 hq, own_q h2 hq, h3⟩
def isBoxQ (B : Nat) (v : Value) (W : World) : Prop := ∃ b, v = .pointer (some ⟨b, 0, none⟩) ∧ B ≤ b ∧ W.heap[b]? = some (.cells #[.slice none 0 0, .slice none 0 0] 51 (0, 0))
theorem mono_boxQ (B : Nat) : Ri.Mono (isBoxQ B) := fun _ _ _ ⟨b, e, h1, h2⟩ hq => ⟨b, e, h1, (hq.below.block _ (blk_lt h2)).trans h2⟩
def gQ (i : Nat) : Nat := if i = 0 ∨ i = 3 then 1 else if i = 4 ∨ i = 7 then 2 else 0
theorem run_allocQ {o : Oper} {A : Act} {W : World} (ho : o.op = .alloc 51) : (execOp A.eval o).run Tryz.prog W = .ok (.value (.pointer (some ⟨W.heap.size, 0, none⟩))) (W.alloc (.cells #[.slice none 0 0, .slice none 0 0] 51)) := by
  unfold execOp
  simp only [ho]
  have h : (Instr.alloc 51 true (.tuple #[])).run Tryz.prog W = .ok (.pointer (some ⟨W.heap.size, 0, none⟩)) (W.alloc (.cells #[.slice none 0 0, .slice none 0 0] 51)) := by kernel_rfl
  simp [Sem.run_bind, h, Result.andThen]
theorem run_neqI {P : Program} {o : Oper} {A : Act} {w : World} {x y : Operand} {t t' : TypeId} {p u : Int} (ho : o.op = .binOp .neq t x y t') (hx : A.eval x = .int .i64 p) (hy : A.eval y = .int .i64 u) (hu : P.underlying t = some (.int .i64)) : (execOp A.eval o).run P w = .ok (.value (.bool (p != u))) w := by
  unfold execOp
  simp only [ho, hx, hy]
  simp [go_sem]
section
variable {w W : World} {hb lb gb mb ab nb k i : Nat} {vk vv vk3 vv3 : Value} {m : HM} {r : Rw} {G : Gd} {op A B t px py : Int} {pb : Bool} {kv ys zs : List (Int × Int)} {Ls : List (List Int)}
theorem aq_pop2 (X : AQ w W hb lb gb mb ab nb vk vv vk3 vv3 m r G op A B kv ys) (I : QI m r Ls kv t k) (g : GI m 3 r.ps kv.length G k) (e1 : px = (lsP kv).1) (e2 : py = (lsP kv).2) (e3 : pb = decide (0 < kv.length)) :
    Calls Tryz.prog 27 #[.pointer (some ⟨lb, 0, none⟩)] W fun e W' => e = .returned (.tuple #[.int .i64 px, .int .i64 py, .bool pb, .int .i64 0]) ∧ ∃ m2 r2, AQ w W' hb lb gb mb ab nb vk vv vk3 vv3 m2 r2 G op A B kv ys ∧ m2.calls = m.calls ∧ ∃ L2 t2, GI m2 3 r2.ps (popY kv).length G (k + 1) ∧ QI m2 r2 L2 (popY kv) t2 (k + 1) := by
  rw [e1, e2, e3]
  exact aq_pop X I g
theorem aq_peek2 (X : AQ w W hb lb gb mb ab nb vk vv vk3 vv3 m r G op A B kv ys) (I : QI m r Ls kv t k) (e1 : px = (lsP kv).1) (e2 : py = (lsP kv).2) (e3 : pb = decide (0 < kv.length)) :
    Calls Tryz.prog 53 #[.pointer (some ⟨lb, 0, none⟩)] W fun e W' => e = .returned (.tuple #[.int .i64 px, .int .i64 py, .bool pb, .int .i64 0]) ∧ AQ w W' hb lb gb mb ab nb vk vv vk3 vv3 m r G op A B kv ys := by
  rw [e1, e2, e3]
  exact aq_peek X I
theorem aq_rpop2 (X : AQ w W hb lb gb mb ab nb vk vv vk3 vv3 m r G op A B kv ys) (hn : ys.length ≤ 64) (e1 : px = (lsP ys).1) (e2 : py = (lsP ys).2) (e3 : pb = decide (0 < ys.length)) :
    Calls Tryz.prog 28 #[.pointer (some ⟨nb, 0, none⟩)] W fun e W' => e = .returned (.tuple #[.int .i64 px, .int .i64 py, .bool pb]) ∧ ∃ v4 v5, AQ w W' hb lb gb mb ab nb vk vv v4 v5 m r G op A B kv (popY ys) := by
  rw [e1, e2, e3]
  exact aq_rpop X hn
theorem aq_rpeek2 (X : AQ w W hb lb gb mb ab nb vk vv vk3 vv3 m r G op A B kv ys) (hn : ys.length ≤ 64) (e1 : px = (lsP ys).1) (e2 : py = (lsP ys).2) (e3 : pb = decide (0 < ys.length)) :
    Calls Tryz.prog 54 #[.pointer (some ⟨nb, 0, none⟩)] W fun e W' => e = .returned (.tuple #[.int .i64 px, .int .i64 py, .bool pb]) ∧ AQ w W' hb lb gb mb ab nb vk vv vk3 vv3 m r G op A B kv ys := by
  rw [e1, e2, e3]
  exact aq_rpeek X hn
theorem pxq_rpop2 (X : PXq w hb lb gb mb i kv zs vk vv W) (hn : kv.length ≤ 64) (hl : 0 < kv.length) (e1 : px = (lsP kv).1) (e2 : py = (lsP kv).2) : Calls Tryz.prog 28 #[.pointer (some ⟨mb, 0, none⟩)] W fun e W' => e = .returned (.tuple #[.int .i64 px, .int .i64 py, .bool true]) ∧ ∃ v4 v5, PXq w hb lb gb mb i (popY kv) zs v4 v5 W' := by
  have h := pxq_rpop X hn
  rw [show decide (0 < kv.length) = true by simpa using hl] at h
  rw [e1, e2]
  exact h
theorem pxq_pop2 (X : PXq w hb lb gb mb i kv zs vk vv W) (hl : 0 < zs.length) (e1 : px = (lsP zs).1) (e2 : py = (lsP zs).2) : Calls Tryz.prog 27 #[.pointer (some ⟨lb, 0, none⟩)] W fun e W' => e = .returned (.tuple #[.int .i64 px, .int .i64 py, .bool true, .int .i64 0]) ∧ PXq w hb lb gb mb (i + 1) kv (popY zs) vk vv W' := by
  rw [e1, e2]
  exact pxq_pop X hl
end
set_option maxHeartbeats 8000000 in
set_option maxRecDepth 100000 in
theorem queues_any (x0 x1 x2 x3 x4 : Int) (v : SlV Ask3) (w : World) (hS : SlOk 3 encA okA w v) : Calls Tryz.prog 6 #[.agg #[.int .i64 x0, .int .i64 x1, .int .i64 x2, .int .i64 x3, .int .i64 x4], v.val] w fun e w' => e = .returned (.bool true) ∧ Q w w' := by
  obtain ⟨A, n, c, l⟩ := v
  unfold SlV.val
  have hcap := hS.sl.cap
  have hbig := hS.big
  dsimp only at hcap hbig
  have HSL := hide hS.sl
  clear hS
  dsimp only at HSL
  go_enter Tryz.func6, Tryz.ntmps6
  go_wp2_with fail
  refine (begin_any _ _ _ _ _ _).mono ?_
  rintro e w1 (⟨rfl, hq1⟩ | ⟨h, G, rfl, R, I, B, hq1, hf1, hg1⟩)
  · have hq1 := ((Q.refl w).alloc _).trans hq1
    go_wp2_with fail
    refine (known_lists _).mono ?_
    rintro e w2 ⟨rfl, hqw2⟩
    obtain ⟨hcw2, hfw2, hzw2⟩ := hqw2.facts
    try simp at hzw2
    try have hs0w2 : w.heap.size < w2.heap.size := by omega
    try have hs1w2 : w.heap.size + 1 < w2.heap.size := by omega
    go_wp2_with fail
    go_ret
    exact ⟨rfl, hq1.trans hqw2⟩
  · have HQ1 := hide (((Q.refl w).alloc _).trans hq1)
    have hq1 := HQ1.out
    obtain ⟨k0, -, -, -, -, -, hbl, -, -⟩ := R.k
    unfold Gd.ptr
    have hdg : (200 : Nat) < n ∨ ¬ 200 < n := by omega
    rcases hdg with hdg | hdg
    · have hd : decide ((200 : Int) < (n : Int)) = true := by simp; omega
      go_wp2_with fail
      refine (known_lists _).mono ?_
      rintro e w2 ⟨rfl, hqw2⟩
      obtain ⟨hcw2, hfw2, hzw2⟩ := hqw2.facts
      try simp at hzw2
      try have hs0w2 : w.heap.size < w2.heap.size := by omega
      try have hs1w2 : w.heap.size + 1 < w2.heap.size := by omega
      go_wp2_with fail
      go_ret
      exact ⟨rfl, HQ1.out.trans hqw2⟩
    have hd : decide ((200 : Int) < (n : Int)) = false := by simp; omega
    have HL0 : Hid (∀ W, Q w1 W → LR W h (newRw w1.heap.size 124 [.int .i64 0]) → LG w W h.blk h.m (newRw w1.heap.size 124 [.int .i64 0]) G (fun _ => False)) := fun W hq L => by
      refine LG.start R hq L (fun b e => ?_) HQ1.out (fun b e => ?_) ?_
      · rcases e with e | e
        · have e : b = w1.heap.size := e
          omega
        · cases e
      · have := hf1 b e
        simp at this
        omega
      · simp at hg1
        omega
    obtain ⟨r0, er0⟩ : ∃ r0, r0 = newRw w1.heap.size 124 [.int .i64 0] := ⟨_, rfl⟩
    have HER := hide er0
    have HNL : Hid (Calls Tryz.prog 15 #[h.ptr] w1 fun e W => e = .returned (.tuple #[.pointer (some ⟨w1.heap.size, 0, none⟩), .int .i64 0]) ∧ LG w W h.blk h.m r0 G (fun _ => False)) := hide ((newQueue_any R.heap R.mu).mono (by
      rintro e W ⟨he, hq, L⟩
      rw [er0]
      exact ⟨he, HL0.out W hq L⟩))
    have HNX : Hid (∀ W, LG w W h.blk h.m r0 G (fun _ => False) → Calls Tryz.prog 39 #[.pointer (some ⟨G.blk, 0, none⟩), .int .i64 0, .int .i64 0, .bool false, .int .i64 0] W fun e W => e = .returned (.bool true) ∧ LG w W h.blk h.m r0 G (fun _ => False)) := fun W X => by
      refine (X.grd (P := fun e => e = .returned (.bool true)) rfl fun h' R' e1 => next_any R' (by rw [e1]; exact I) (.inl ⟨rfl, (fun e => by cases e), by rw [e1]; exact B.calls, rfl⟩)).mono ?_
      rintro e W' ⟨he, hl, -⟩
      exact ⟨he, hl⟩
    have HLF : Hid (∀ W, LG w W h.blk h.m r0 G (fun _ => False) → Calls Tryz.prog 40 #[.pointer (some ⟨G.blk, 0, none⟩)] W fun e W => e = .returned (.bool true) ∧ LG w W h.blk h.m r0 G (fun _ => False)) := fun W X => by
      refine (X.grd (P := fun e => e = .returned (.bool true)) rfl fun h' R' e1 => left_gi R' (by rw [e1]; exact I) (by rw [e1, rest_nil, B.others])).mono ?_
      rintro e W' ⟨he, hl, -⟩
      exact ⟨he, hl⟩
    have HG0 : Hid (GI h.m 3 [] 0 G 0) := hide (GI.start I B 3 (by decide))
    have HI := hide I
    have hdn : n ≤ 200 := by omega
    clear hdg hcap hbig hf1 hg1 R B HL0 I
    obtain ⟨gb, egb⟩ : ∃ gb, gb = G.blk := ⟨_, rfl⟩
    have HEG := hide egb
    rw [← egb] at HNX HLF k0 hbl ⊢
    obtain ⟨lb, elb⟩ : ∃ lb, lb = w1.heap.size := ⟨_, rfl⟩
    have HLB : Hid (r0.blk = lb) := by rw [HER.out, elb]; rfl
    rw [← elb] at HNL
    clear egb elb er0
    unfold Hp.ptr at k0 HNL
    go_wp2_with (first
      | (go_at_call 15; refine HNL.out.mono ?_; rintro e w2 ⟨rfl, hX2⟩; have HX2 := hide hX2; clear hX2 k0 hbl)
      | (go_at_call 39; refine (HNX.out _ HX2.out).mono ?_; rintro e w3 ⟨rfl, hX3⟩; have HX3 := hide hX3; clear hX3)
      | (go_at_call 40; refine (HLF.out _ HX3.out).mono ?_; rintro e w4 ⟨rfl, hX4⟩; have HX4 := hide hX4; clear hX4))
    have HP0 : Hid (PRq w h.blk lb gb w4.heap.size n 0 (w4.alloc (.cells #[.slice none 0 0, .slice none 0 0] 51))) := by
      have X := HX4.out
      have q : Q w4 (w4.alloc (.cells #[.slice none 0 0, .slice none 0 0] 51)) := (Q.refl _).alloc _
      refine ⟨Nat.zero_le _, [], .slice none 0 0, .slice none 0 0, h.m, r0, G, [], 0, HLB.out, HEG.out.symm, by rw [HER.out]; rfl, X.turn (T := fun _ => False) (.of_q q) (fun b e => e.elim) (fun b e => ?_), ⟨heap_alloc_new _ _, World.ownsRow_nil _ _ _ _, World.ownsRow_nil _ _ _ _, fun g e => by cases e⟩, ?_, ?_⟩
      · rcases e with e | e | e
        · refine .inr ⟨by omega, ?_⟩
          subst e
          simp
        · cases e
        · cases e
      · rw [HER.out]
        exact HG0.out
      · rw [HER.out]
        exact qi_start (newQueue_r h.m HI.out _)
    obtain ⟨mb, emb⟩ : ∃ mb, mb = w4.heap.size := ⟨_, rfl⟩
    obtain ⟨w5, ew5⟩ : ∃ w5, w5 = w4.alloc (.cells #[.slice none 0 0, .slice none 0 0] 51) := ⟨_, rfl⟩
    rw [← emb, ← ew5] at HP0
    rw [← emb, ← ew5]
    obtain ⟨hb, ehb⟩ : ∃ hb, hb = h.blk := ⟨_, rfl⟩
    rw [← ehb] at HP0
    clear emb ew5 ehb HX4 HX3 HX2 HNL HNX HLF HER HLB HG0 HI HEG hq1
    go_loopg [10] n (fun g vi wr => ∃ i : Nat, i + g = n ∧ vi = .int .i64 (i : Int) ∧ PRq w hb lb gb mb n i wr)
    case atStart => exact ⟨0, by omega, by go_num, HP0.out⟩
    case round =>
      clear HP0
      obtain ⟨i, hig, rfl, hp⟩ := hrel
      have HCL : Hid (∀ W, PRq w hb lb gb mb n i W → Calls Tryz.prog 32 #[.pointer (some ⟨lb, 0, none⟩)] W fun e W' => e = .returned (.int .i64 0) ∧ PC w hb lb gb W') := fun W X => prq_close X
      have HLF : Hid (∀ W, PC w hb lb gb W → Calls Tryz.prog 40 #[.pointer (some ⟨gb, 0, none⟩)] W fun e W' => e = .returned (.bool true) ∧ PC w hb lb gb W') := fun W X => pc_left X
      have HLC : Hid (∀ W, PC w hb lb gb W → Calls Tryz.prog 55 #[.pointer (some ⟨lb, 0, none⟩)] W fun e W' => e = .returned (.bool true) ∧ Q w W') := fun W X => pcq_closed X
      have HKN : Hid (∀ W, Calls Tryz.prog 38 #[] W fun e w' => e = .returned (.bool true) ∧ Q W w') := fun W => known_lists _
      by_cases hlt : i < n
      · have hd1 : decide ((i : Int) < (n : Int)) = true := by simp; omega
        have hd0 : decide (i < n) = true := by simp; omega
        have hlti : (i : Int) < (n : Int) := by omega
        obtain ⟨ba, oa, op, a1, b1, eA, hba, -, d0, d1, d2⟩ := (HSL.out.up (PRq.toQ hp)).ask i hlt
        subst eA
        have HP4 := hide hp
        obtain ⟨-, kv, vk, vv, m, r, G, Ls, tt, hrb, hgk, hty, X, M, g, I⟩ := hp
        obtain ⟨A1, c1, A2, c2, ek, ev, RMM⟩ := M.rq
        have hS64 := I.l64
        have HQI := hide I
        have lk : (keysOf kv).length = kv.length := by unfold keysOf; rw [List.length_map]
        have lv : (valsOf kv).length = kv.length := by unfold valsOf; rw [List.length_map]
        have hA1 : A1 = none → kv.length = 0 ∧ c1 = 0 := fun e => by
          subst e
          rcases M.ok.2 with ⟨h0, -⟩ | ⟨g, cap, cur, h0, -⟩
          · rw [ek] at h0
            injection h0 with _ h1 h2
            exact ⟨h1, h2⟩
          · rw [ek] at h0
            cases h0
        have hA2 : A2 = none → kv.length = 0 ∧ c2 = 0 := fun e => by
          subst e
          rcases M.ov.2 with ⟨h0, -⟩ | ⟨g, cap, cur, h0, -⟩
          · rw [ev] at h0
            injection h0 with _ h1 h2
            exact ⟨h1, h2⟩
          · rw [ev] at h0
            cases h0
        obtain ⟨wa, ewa⟩ : ∃ wa, wa = wr.alloc (.cells #[.int .i64 op, .int .i64 a1, .int .i64 b1] 53) := ⟨_, rfl⟩
        have HWA := hide ewa
        have qwa : Q wr wa := by rw [ewa]; exact (Q.refl _).alloc _
        have HMO : Hid (∀ W, Q wa W → W.cell? ⟨mb, 0, none⟩ = some (.slice A1 kv.length c1) ∧ W.cell? ⟨mb, 1, none⟩ = some (.slice A2 kv.length c2)) := fun W hq => by
          have h := (M.q (qwa.trans hq)).k
          rw [ek, ev] at h
          exact ⟨h.1, h.2.1⟩
        have okM := M.ok
        rw [ek] at okM
        have ovM := M.ov
        rw [ev] at ovM
        rw [lk] at okM
        rw [lv] at ovM
        have HRDK : Hid (∀ W, Q wa W → Rd W W.heap.size A1 (intsV (keysOf kv))) := fun W hq => own_rd (own_q okM (qwa.trans hq))
        have HRDV : Hid (∀ W, Q wa W → Rd W W.heap.size A2 (intsV (valsOf kv))) := fun W hq => own_rd (own_q ovM (qwa.trans hq))
        obtain ⟨len, elen⟩ : ∃ len, len = kv.length := ⟨_, rfl⟩
        have HLEN := hide elen
        have HLK : Hid (len = (keysOf kv).length) := by rw [lk]; exact elen
        have HLV : Hid (len = (valsOf kv).length) := by rw [lv]; exact elen
        have HTK : Hid ((intsV (keysOf kv)).length = len * 1) := by show (intsV (keysOf kv)).length = len * 1; unfold intsV; rw [List.length_map, lk]; omega
        have HTV : Hid ((intsV (valsOf kv)).length = len * 1) := by show (intsV (valsOf kv)).length = len * 1; unfold intsV; rw [List.length_map, lv]; omega
        have HX64 := hide hS64
        rw [← elen] at hS64 HMO
        have HAK : Hid (A1 = none → len = 0 ∧ c1 = 0) := by rw [elen]; exact hA1
        have HAV : Hid (A2 = none → len = 0 ∧ c2 = 0) := by rw [elen]; exact hA2
        have HX := hide X
        have HM := hide M
        have HG := hide g
        have HRB := hide hrb
        have HGK := hide hgk
        have HTY := hide hty
        have HEW := hide ewa
        have HMC : Hid (m.calls < 1000000000) := hide (by have := g.few; omega)
        have HNN : Hid (i < 1000000) := hide (by omega)
        obtain ⟨px, epx⟩ : ∃ px, px = (lsP kv).1 := ⟨_, rfl⟩
        obtain ⟨py, epy⟩ : ∃ py, py = (lsP kv).2 := ⟨_, rfl⟩
        obtain ⟨pb, epb⟩ : ∃ pb, pb = decide (0 < kv.length) := ⟨_, rfl⟩
        have HPX := hide epx
        have HPY := hide epy
        have HPB := hide epb
        clear hrb hgk hty X M g I hA1 hA2 RMM okM ovM lk lv ek ev elen ewa qwa epx epy epb
        go_upto_region 12 with fail
        rw [← HEW.out]
        clear d0 d1 d2 HSL hba
        refine Ri.made_lastP gQ (Ri.phi [(isLit wa.heap.size), Ri.isV (.pointer (some ⟨mb, 0, none⟩)), Ri.isV (.slice A1 len c1), (isOwnI wa.heap.size len (intsV (keysOf kv))), (isLit wa.heap.size), Ri.isV (.pointer (some ⟨mb, 1, none⟩)), Ri.isV (.slice A2 len c2), (isOwnI wa.heap.size len (intsV (valsOf kv))), (isPairQ wa.heap.size len (intsV (keysOf kv)) (intsV (valsOf kv))), (isBoxQ wa.heap.size)]) (by kernel_rfl) (by kernel_rfl) rfl (by kernel_rfl) rfl (Ri.phi_mono ?_) ?_ ?_
        · exact ⟨mono_lit _, Ri.mono_isV _, Ri.mono_isV _, mono_ownI _ _ _, mono_lit _, Ri.mono_isV _, Ri.mono_isV _, mono_ownI _ _ _, mono_pairQ _ _ _ _, mono_boxQ _, trivial⟩
        · refine Ri.All.cons ?_ (Ri.All.cons ?_ (Ri.All.cons ?_ (Ri.All.cons ?_ (Ri.All.cons ?_ (Ri.All.cons ?_ (Ri.All.cons ?_ (Ri.All.cons ?_ (Ri.All.cons ?_ (Ri.All.cons ?_ (Ri.All.nil))))))))))
          · refine ⟨rfl, fun f W hq hf hD A hA hB hO => ?_⟩
            exact Ri.wp_litD El_int rfl ⟨_, rfl, own_lit0 W _ _ _ _ rfl ((Q.refl wa).drew.trans hq).size⟩
          · refine Ri.StepD.g rfl ⟨rfl, fun f W hq hf A hA hB hO => ?_⟩
            have e1 := (hB 9 (by kernel_rfl)).trans (show _ = .pointer (some ⟨mb, 0, none⟩) by simp [Act.eval])
            exact Ri.wp_value _ (Ri.run_fld (f := _) rfl e1 Tryz.underlying51 rfl (sz := 0) (by kernel_rfl)) rfl
          · refine Ri.StepD.g rfl ⟨rfl, fun f W hq hf A hA hB hO => ?_⟩
            have e1 := (hA 74 1 (by kernel_rfl) (by simp)).trans (show f 1 = _ from hf 1 (by kernel_rfl))
            exact Ri.wp_value _ (Ri.run_ld1 rfl e1 Tryz.underlying45 rfl ((HMO.out _ ((Q.refl wa).drew.trans hq)).1)) rfl
          · refine ⟨rfl, fun f W hq hf hD A hA hB hO => ?_⟩
            obtain ⟨b0, hb, hw⟩ : isLit wa.heap.size (f 0) W := hf 0 (by kernel_rfl)
            have e1 := (hA 73 0 (by kernel_rfl) (by simp)).trans hb
            have e2 := (hA 75 2 (by kernel_rfl) (by simp)).trans (show f 2 = _ from hf 2 (by kernel_rfl))
            have hqW := (Q.refl wa).drew.trans hq
            exact Ri.wp_appendD (jj := 0) El_int _ _ rfl e1 e2 hw HAK.out HTK.out (HRDK.out _ hqW) (intsV_cell _) (by omega) hqW.size (by kernel_rfl) rfl hb (fun v w3 h => h)
          · refine ⟨rfl, fun f W hq hf hD A hA hB hO => ?_⟩
            exact Ri.wp_litD El_int rfl ⟨_, rfl, own_lit0 W _ _ _ _ rfl ((Q.refl wa).drew.trans hq).size⟩
          · refine Ri.StepD.g rfl ⟨rfl, fun f W hq hf A hA hB hO => ?_⟩
            have e1 := (hB 9 (by kernel_rfl)).trans (show _ = .pointer (some ⟨mb, 0, none⟩) by simp [Act.eval])
            exact Ri.wp_value _ (Ri.run_fld (f := _) rfl e1 Tryz.underlying51 rfl (sz := 0) (by kernel_rfl)) rfl
          · refine Ri.StepD.g rfl ⟨rfl, fun f W hq hf A hA hB hO => ?_⟩
            have e1 := (hA 78 5 (by kernel_rfl) (by simp)).trans (show f 5 = _ from hf 5 (by kernel_rfl))
            exact Ri.wp_value _ (Ri.run_ld1 rfl e1 Tryz.underlying45 rfl ((HMO.out _ ((Q.refl wa).drew.trans hq)).2)) rfl
          · refine ⟨rfl, fun f W hq hf hD A hA hB hO => ?_⟩
            obtain ⟨b0, hb, hw⟩ : isLit wa.heap.size (f 4) W := hf 4 (by kernel_rfl)
            have e1 := (hA 77 4 (by kernel_rfl) (by simp)).trans hb
            have e2 := (hA 79 6 (by kernel_rfl) (by simp)).trans (show f 6 = _ from hf 6 (by kernel_rfl))
            have hqW := (Q.refl wa).drew.trans hq
            exact Ri.wp_appendD (jj := 4) El_int _ _ rfl e1 e2 hw HAV.out HTV.out (HRDV.out _ hqW) (intsV_cell _) (by omega) hqW.size (by kernel_rfl) rfl hb (fun v w3 h => h)
          · refine ⟨rfl, fun f W hq hf hD A hA hB hO => ?_⟩
            have o3 : isOwnI wa.heap.size len (intsV (keysOf kv)) (f 3) W := hf 3 (by kernel_rfl)
            have o7 : isOwnI wa.heap.size len (intsV (valsOf kv)) (f 7) W := hf 7 (by kernel_rfl)
            have hap : ∀ g, (f 3).ownBlock = some g → (f 7).ownBlock ≠ some g := fun g hg => hD 3 7 (by show _ = true; kernel_rfl) (by show _ = true; kernel_rfl) (by decide) (by decide) (by decide) g hg
            have e1 := hA 76 3 (by kernel_rfl) (by simp)
            have e2 := hA 80 7 (by kernel_rfl) (by simp)
            obtain ⟨u1, hu1⟩ : ∃ u1, u1 = f 3 := ⟨_, rfl⟩
            obtain ⟨u2, hu2⟩ : ∃ u2, u2 = f 7 := ⟨_, rfl⟩
            rw [← hu1] at o3 e1 hap
            rw [← hu2] at o7 e2 hap
            obtain ⟨A3, c3, e3, -⟩ := own_form o3
            obtain ⟨A4, c4, e4, -⟩ := own_form o7
            subst e3
            subst e4
            exact Ri.wp_structD rfl rfl [(0, .slice A3 len c3), (1, .slice A4 len c4)] (by simp [e1, e2]) (by kernel_rfl) ⟨_, _, rfl, o3, o7, hap⟩
          · refine Ri.StepD.g rfl ⟨rfl, fun f W hq hf A hA hB hO => ?_⟩
            refine Ri.wp_val (.pointer (some ⟨W.heap.size, 0, none⟩)) (run_allocQ rfl) ((Q.refl _).alloc _) ?_
            exact ⟨_, rfl, ((Q.refl wa).drew.trans hq).size, heap_alloc_new _ _⟩
        · intro f W hq hf A hAe hA hB
          obtain ⟨u1, u2, e8, o1, o2, hap⟩ : isPairQ wa.heap.size len (intsV (keysOf kv)) (intsV (valsOf kv)) (f 8) W := hf 8 (by simp)
          obtain ⟨nb, e9, hnb, hbx⟩ : isBoxQ wa.heap.size (f 9) W := hf 9 (by simp)
          have e1 := (hA 12 9 (by kernel_rfl) (by simp)).trans e9
          have e2 := (hA 81 8 (by kernel_rfl) (by simp)).trans e8
          have o1x := o1
          rw [HLK.out] at o1x
          have o2x := o2
          rw [HLV.out] at o2x
          have hAM := AQ.make (op := op) (A := a1) (B := b1) HRB.out HGK.out HTY.out HX.out HM.out HWA.out hq hbx hnb o1x o2x hap
          obtain ⟨A3, c3, e3, -⟩ := own_form o1
          obtain ⟨A4, c4, e4, -⟩ := own_form o2
          subst e3
          subst e4
          refine wp_store_row _ _ _ rfl nb #[.slice A3 len c3, .slice A4 len c4] e1 e2 _ _ hbx (by kernel_rfl) rfl (by simp [Value.oneCell']) ⟨undef, rfl, ?_⟩
          rw [hAe]
          simp only [Ri.acts, Act.put, List.setIfInBounds_toArray, List.set_cons_zero, List.set_cons_succ, Nat.zero_add, Nat.reduceAdd]
          rw [e9]
          have HAS := hide hAM
          clear hAM hq hf hA hB hAe e1 e2 e8 e9 o1 o2 o1x o2x hap hbx hnb HX HM HRB HGK HTY HEW HWA HRDK HRDV HTK HTV HAK HAV HMO HLK HLV
          obtain ⟨W4, eW4⟩ : ∃ W4, W4 = W.setRow nb #[.slice A3 len c3, .slice A4 len c4] := ⟨_, rfl⟩
          rw [← eW4] at HAS
          rw [← eW4]
          obtain ⟨ab, eab⟩ : ∃ ab, ab = wr.heap.size := ⟨_, rfl⟩
          rw [← eab] at HAS
          rw [← eab]
          clear eW4 eab
          obtain ⟨d0, d1, d2, cN, cV, hab, hnb, hmb, f0, f1, cK, cL⟩ := HAS.out.cs
          go_upto_block 2 with fail
          go_cut [13, 14, 15, 16, 17, 18, 19, 20, 21] (fun t13 t14 t15 t16 t17 t18 t19 t20 t21 wx => CutQ w hb lb gb mb ab nb op a1 b1 i t13 t14 t15 t16 t17 t18 t19 t20 t21 wx)
          case first =>
            cases k0 : (op == 0) with
            | true =>
              go_wp2_with (first
                | (go_at_call 25; go_loud (refine (aq_push HAS.out HQI.out HMC.out HNN.out a1 b1).mono ?_); rintro e w10 ⟨m2, r2, hX, L2, err, t2, rfl, hO⟩; have HX10 := hide hX; clear hX; have HO := hide hO; clear hO; clear d0 d1 d2 cN cV hab hnb hmb f0 f1 cK cL; obtain ⟨d0, d1, d2, cN, cV, hab, hnb, hmb, f0, f1, cK, cL⟩ := HX10.out.cs)
                | (go_at_call 26; go_loud (refine (aq_rpush HX10.out HX64.out a1 b1).mono ?_); rintro e w11 ⟨rfl, v4, v5, hX⟩; have HX11 := hide hX; clear hX; clear d0 d1 d2 cN cV hab hnb hmb f0 f1 cK cL; obtain ⟨d0, d1, d2, cN, cV, hab, hnb, hmb, f0, f1, cK, cL⟩ := HX11.out.cs))
              go_meet
              obtain ⟨G2, hA⟩ := push_out HQI.out HG.out HO.out
              exact ⟨_, _, v4, v5, m2, r2, G, G2, kv, _, err, _, 0, 0, _, false, rfl, rfl, rfl, rfl, rfl, rfl, rfl, rfl, rfl, HX11.out, hA⟩
            | false =>
              cases k1 : (op == 1) with
              | true =>
                go_wp2_with (first
                  | (go_at_call 27; go_loud (refine (aq_pop2 HAS.out HQI.out HG.out HPX.out HPY.out HPB.out).mono ?_); rintro e w10 ⟨rfl, m2, r2, hX, -, L2, t2, hG2⟩; have HX10 := hide hX; clear hX; have HG2 := hide hG2; clear hG2; clear d0 d1 d2 cN cV hab hnb hmb f0 f1 cK cL; obtain ⟨d0, d1, d2, cN, cV, hab, hnb, hmb, f0, f1, cK, cL⟩ := HX10.out.cs)
                  | (go_at_call 28; go_loud (refine (aq_rpop2 HX10.out HX64.out HPX.out HPY.out HPB.out).mono ?_); rintro e w11 ⟨rfl, v4, v5, hX⟩; have HX11 := hide hX; clear hX; clear d0 d1 d2 cN cV hab hnb hmb f0 f1 cK cL; obtain ⟨d0, d1, d2, cN, cV, hab, hnb, hmb, f0, f1, cK, cL⟩ := HX11.out.cs))
                go_meet
                exact ⟨_, _, v4, v5, m2, r2, G, G, kv, _, _, _, px, py, _, pb, rfl, rfl, rfl, rfl, rfl, rfl, rfl, rfl, rfl, HX11.out, pop_act HG2.out.1 HG2.out.2⟩
              | false =>
                cases k2 : (op == 2) with
                | true =>
                  go_wp2_with (first
                    | (go_at_call 53; go_loud (refine (aq_peek2 HAS.out HQI.out HPX.out HPY.out HPB.out).mono ?_); rintro e w10 ⟨rfl, hX⟩; have HX10 := hide hX; clear hX; clear d0 d1 d2 cN cV hab hnb hmb f0 f1 cK cL; obtain ⟨d0, d1, d2, cN, cV, hab, hnb, hmb, f0, f1, cK, cL⟩ := HX10.out.cs)
                    | (go_at_call 54; go_loud (refine (aq_rpeek2 HX10.out HX64.out HPX.out HPY.out HPB.out).mono ?_); rintro e w11 ⟨rfl, hX⟩; have HX11 := hide hX; clear hX; clear d0 d1 d2 cN cV hab hnb hmb f0 f1 cK cL; obtain ⟨d0, d1, d2, cN, cV, hab, hnb, hmb, f0, f1, cK, cL⟩ := HX11.out.cs))
                  go_meet
                  exact ⟨_, _, _, _, m, r, G, G, kv, _, _, _, px, py, _, pb, rfl, rfl, rfl, rfl, rfl, rfl, rfl, rfl, rfl, HX11.out, peek_act HG.out HQI.out⟩
                | false =>
                  have HP4 : Hid (PRq w hb lb gb mb n i W4) := hide ⟨by omega, _, _, _, HAS.out.leave HG.out HQI.out⟩
                  go_wp2_with (first
                    | (go_at_call 32; refine (HCL.out _ HP4.out).mono ?_; rintro e w6 ⟨rfl, hX6⟩; have HX6 := hide hX6; clear hX6)
                    | (go_at_call 40; refine (HLF.out _ HX6.out).mono ?_; rintro e w7 ⟨rfl, hX7⟩; have HX7 := hide hX7; clear hX7)
                    | (go_at_call 55; refine (HLC.out _ HX7.out).mono ?_; rintro e w8 ⟨rfl, hX8⟩; have HX8 := hide hX8; clear hX8)
                    | (go_at_call 38; refine (HKN.out _).mono ?_; rintro e w9 ⟨rfl, hX9⟩; have HX9 := hide hX9; clear hX9))
                  go_ret
                  exact ⟨rfl, HX8.out.trans HX9.out⟩
          case rest =>
            obtain ⟨vk5, vv5, vk6, vv6, m5, r5, G5, G6, kv5, ys5, got, want, x, y, lg, bb, rfl, rfl, rfl, rfl, rfl, rfl, rfl, rfl, rfl, hX, hA⟩ := hcut
            have HX5 := hide hX
            have HA5 := hide hA
            obtain ⟨A6, c6, A7, c7, e6, e7, -⟩ := hX.no.rq
            subst e6
            subst e7
            clear hX hA HAS HG HX64 HMC HNN HQI HLEN HCL HLF HLC HKN HP4 HPX HPY HPB d0 d1 d2 cN cV hab hnb hmb f0 f1 cK cL hS64
            clear px py pb
            clear m r G A1 c1 A2 c2 A3 c3 A4 c4 len kv vk vv Ls tt
            obtain ⟨d0, d1, d2, cN, cV, hab, hnb, hmb, f0, f1, cK, cL⟩ := HX5.out.cs
            obtain ⟨yl, eyl⟩ : ∃ yl, yl = ys5.length := ⟨_, rfl⟩
            have HYL := hide eyl
            have HNX : Hid (Calls Tryz.prog 39 #[.pointer (some ⟨gb, 0, none⟩), .int .i64 got, .int .i64 want, .bool lg, .int .i64 (yl : Int)] wc fun e W' => e = .returned (.bool true) ∧ AQ w W' hb lb gb mb ab nb vk5 vv5 (.slice A6 yl c6) (.slice A7 yl c7) m5 r5 G6 op a1 b1 kv5 ys5) := by rw [eyl]; exact aq_next HX5.out HA5.out
            rw [← eyl] at cN cV
            have dxx : (x != x) = false := by simp
            have dyy : (y != y) = false := by simp
            have dbb : (bb != bb) = false := by simp
            clear eyl
            go_upto_if 164 with (go_at_call 39; refine HNX.out.mono ?_; rintro e w12 ⟨rfl, hX⟩; have HX12 := hide hX; clear hX d0 d1 d2 cN cV hab hnb hmb f0 f1 cK cL; obtain ⟨d0, d1, d2, cN, cV, hab, hnb, hmb, f0, f1, cK, cL⟩ := HX12.out.cs)
            go_cut [13] (fun _ wx => ∃ (kv : List (Int × Int)) (B1 B2 : Option Addr) (d1 d2 : Nat), PXq w hb lb gb mb (i + 1) kv kv (.slice B1 kv.length d1) (.slice B2 kv.length d2) wx)
            case first =>
              obtain ⟨A8, c8, A9, c9, e8, e9, -⟩ := HX5.out.mo.rq
              subst e8
              subst e9
              have HZ := hide HA5.out.2
              clear HNX HX5 dxx dyy dbb
              cases k0 : (got == 0) with
              | true =>
                go_wp2_with fail
                go_meet
                obtain ⟨zs, L2, t2, hg, hi, hz⟩ := HZ.out
                rcases hz with ⟨-, ez⟩ | ⟨h0, -⟩
                · subst ez
                  refine ⟨zs, A6, A7, c6, c7, ?_⟩
                  rw [← HYL.out]
                  exact HX12.out.take hg hi
                · rw [k0] at h0; cases h0
              | false =>
                go_wp2_with fail
                go_meet
                obtain ⟨zs, L2, t2, hg, hi, hz⟩ := HZ.out
                rcases hz with ⟨h0, -⟩ | ⟨-, ez⟩
                · rw [k0] at h0; cases h0
                · subst ez
                  exact ⟨_, A8, A9, c8, c9, HX12.out.leave hg hi⟩
            case rest =>
              obtain ⟨kv, B1, B2, d1, d2, hX⟩ := hcut
              have HXZ := hide hX
              clear hX HX5 HX12 HA5 HNX HYL dxx dyy dbb d0 cN cV hab hnb hmb f0 f1 cK cL
              clear m5 r5 G5 G6 kv5 ys5 A6 c6 A7 c7
              obtain ⟨len, elen⟩ : ∃ len, len = kv.length := ⟨_, rfl⟩
              have HC0 : Hid ((PXq w hb lb gb mb (i + 1) kv kv (.slice B1 len d1) (.slice B2 len d2)) wc) := by rw [elen]; exact HXZ.out
              have HCM : Hid (∀ W, (PXq w hb lb gb mb (i + 1) kv kv (.slice B1 len d1) (.slice B2 len d2)) W → W.cell? ⟨mb, 0, none⟩ = some (.slice B1 len d1) ∧ W.cell? ⟨mb, 1, none⟩ = some (.slice B2 len d2)) := fun W X => ⟨X.oq.k.1, X.oq.k.2.1⟩
              have HLN : Hid (∀ W, (PXq w hb lb gb mb (i + 1) kv kv (.slice B1 len d1) (.slice B2 len d2)) W → Calls Tryz.prog 56 #[.pointer (some ⟨lb, 0, none⟩)] W fun e W' => e = .returned (.int .i64 (len : Int)) ∧ (PXq w hb lb gb mb (i + 1) kv kv (.slice B1 len d1) (.slice B2 len d2)) W') := fun W X => by rw [elen] at X ⊢; exact pxq_len X
              have HKP : Hid (∀ W, (PXq w hb lb gb mb (i + 1) kv kv (.slice B1 len d1) (.slice B2 len d2)) W → Calls Tryz.prog 45 #[.pointer (some ⟨gb, 0, none⟩)] W fun e W' => e = .returned (.bool true) ∧ (PXq w hb lb gb mb (i + 1) kv kv (.slice B1 len d1) (.slice B2 len d2)) W') := fun W X => pxq_kept X
              clear HXZ elen
              go_upto_region 33 with fail
              refine Ri.madeZ (C := (PXq w hb lb gb mb (i + 1) kv kv (.slice B1 len d1) (.slice B2 len d2))) [1, 8] [0, 1, 2, 3, 4, 5, 6, 7, 8, 9, 10] (fun w1 w2 X hq => X.q hq) (Ri.phi [Ri.isV (.pointer (some ⟨lb, 0, none⟩)), Ri.isV (.int .i64 (len : Int)), Ri.isV (.pointer (some ⟨mb, 0, none⟩)), Ri.isV (.slice B1 len d1), Ri.isV (.int .i64 (len : Int)), Ri.isV (.bool false), Ri.isV (.bool false), Ri.isV (.pointer (some ⟨gb, 0, none⟩)), Ri.isV (.bool true), Ri.isV (.bool false), Ri.isV (.bool false)]) (by kernel_rfl) (by kernel_rfl) (by kernel_rfl) (HC0.out.q (Q.refl _).drew) (Ri.phi_mono ?_) (Ri.phi_fix ?_) ?_ ?_
              · exact ⟨Ri.mono_isV _, Ri.mono_isV _, Ri.mono_isV _, Ri.mono_isV _, Ri.mono_isV _, Ri.mono_isV _, Ri.mono_isV _, Ri.mono_isV _, Ri.mono_isV _, Ri.mono_isV _, Ri.mono_isV _, trivial⟩
              · exact ⟨fun _ => Ri.fix_isV _, fun _ => Ri.fix_isV _, fun _ => Ri.fix_isV _, fun _ => Ri.fix_isV _, fun _ => Ri.fix_isV _, fun _ => Ri.fix_isV _, fun _ => Ri.fix_isV _, fun _ => Ri.fix_isV _, fun _ => Ri.fix_isV _, fun _ => Ri.fix_isV _, fun _ => Ri.fix_isV _, trivial⟩
              · refine Ri.All.cons ?_ (Ri.All.cons ?_ (Ri.All.cons ?_ (Ri.All.cons ?_ (Ri.All.cons ?_ (Ri.All.cons ?_ (Ri.All.cons ?_ (Ri.All.cons ?_ (Ri.All.cons ?_ (Ri.All.cons ?_ (Ri.All.cons ?_ (Ri.All.nil)))))))))))
                · refine Ri.StepZ.q (by kernel_rfl) rfl fun f W hq hf A hA hB hO => ?_
                  have e1 := (hB 7 (by kernel_rfl)).trans (show _ = .pointer (some ⟨lb, 0, none⟩) by simp [Act.eval])
                  exact Ri.wp_value _ (Ri.run_mv rfl e1) rfl
                · refine Ri.StepZ.c (by kernel_rfl) rfl fun f W hq hf A hA hB hO => ?_
                  have e1 := (hA 166 0 (by kernel_rfl) (by simp)).trans (show f 0 = _ from hf 0 (by kernel_rfl))
                  refine Ri.wp_callZ #[.pointer (some ⟨lb, 0, none⟩)] rfl (by simp [e1]) Tryz.func56 (by kernel_rfl) (by kernel_rfl) ((HLN.out W hq).mono ?_)
                  rintro e w3 ⟨rfl, hx3⟩
                  exact ⟨_, rfl, hx3, rfl⟩
                · refine Ri.StepZ.q (by kernel_rfl) rfl fun f W hq hf A hA hB hO => ?_
                  have e1 := (hB 9 (by kernel_rfl)).trans (show _ = .pointer (some ⟨mb, 0, none⟩) by simp [Act.eval])
                  exact Ri.wp_value _ (Ri.run_fld (f := _) rfl e1 Tryz.underlying51 rfl (sz := 0) (by kernel_rfl)) rfl
                · refine Ri.StepZ.q (by kernel_rfl) rfl fun f W hq hf A hA hB hO => ?_
                  have e1 := (hA 168 2 (by kernel_rfl) (by simp)).trans (show f 2 = _ from hf 2 (by kernel_rfl))
                  exact Ri.wp_value _ (Ri.run_ld1 rfl e1 Tryz.underlying45 rfl ((HCM.out W hq).1)) rfl
                · refine Ri.StepZ.q (by kernel_rfl) rfl fun f W hq hf A hA hB hO => ?_
                  have e1 := (hA 169 3 (by kernel_rfl) (by simp)).trans (show f 3 = _ from hf 3 (by kernel_rfl))
                  exact Ri.wp_value _ (Ri.run_len rfl e1 Tryz.underlying45) rfl
                · refine Ri.StepZ.q (by kernel_rfl) rfl fun f W hq hf A hA hB hO => ?_
                  have e1 := (hA 167 1 (by kernel_rfl) (by simp)).trans (show f 1 = _ from hf 1 (by kernel_rfl))
                  have e2 := (hA 170 4 (by kernel_rfl) (by simp)).trans (show f 4 = _ from hf 4 (by kernel_rfl))
                  exact Ri.wp_value _ ((run_neqI rfl e1 e2 Tryz.underlying3).trans (by simp)) rfl
                · refine Ri.StepZ.q (by kernel_rfl) rfl fun f W hq hf A hA hB hO => ?_
                  have e1 := (hA 171 5 (by kernel_rfl) (by simp)).trans (show f 5 = _ from hf 5 (by kernel_rfl))
                  exact Ri.wp_value _ (Ri.run_mv rfl e1) rfl
                · refine Ri.StepZ.gq (by kernel_rfl) rfl rfl (by simp) fun f W hq hf A hA hB hO => ⟨hf 6 (by kernel_rfl), ?_⟩
                  have e1 := (hB 5 (by kernel_rfl)).trans (show _ = .pointer (some ⟨gb, 0, none⟩) by simp [Act.eval])
                  exact Ri.wp_value _ (Ri.run_mv rfl e1) rfl
                · refine Ri.StepZ.gc (by kernel_rfl) rfl rfl (by simp) fun f W hq hf A hA hB hO => ⟨hf 6 (by kernel_rfl), ?_⟩
                  have e1 := (hA 173 7 (by kernel_rfl) (by simp)).trans (show f 7 = _ from hf 7 (by kernel_rfl))
                  refine Ri.wp_callZ #[.pointer (some ⟨gb, 0, none⟩)] rfl (by simp [e1]) Tryz.func45 (by kernel_rfl) (by kernel_rfl) ((HKP.out W hq).mono ?_)
                  rintro e w3 ⟨rfl, hx3⟩
                  exact ⟨_, rfl, hx3, rfl⟩
                · refine Ri.StepZ.gq (by kernel_rfl) rfl rfl (by simp) fun f W hq hf A hA hB hO => ⟨hf 6 (by kernel_rfl), ?_⟩
                  have e1 := (hA 174 8 (by kernel_rfl) (by simp)).trans (show f 8 = _ from hf 8 (by kernel_rfl))
                  exact Ri.wp_value _ (Ri.run_not rfl e1) rfl
                · refine Ri.StepZ.q (by kernel_rfl) rfl fun f W hq hf A hA hB hO => ?_
                  have e1 := (hA 172 6 (by kernel_rfl) (by simp)).trans (show f 6 = _ from hf 6 (by kernel_rfl))
                  have e2 := (hA 175 9 (by kernel_rfl) (by simp)).trans (show f 9 = _ from hf 9 (by kernel_rfl))
                  exact Ri.wp_value _ (Ri.run_pick rfl e1 (by simpa using e2)) rfl
              · intro f W hq hf
                have e10 : f 10 = .bool false := hf 10 (by simp) (by kernel_rfl)
                simp only [Ri.acts, Act.put, List.setIfInBounds_toArray, List.set_cons_zero, List.set_cons_succ, Nat.zero_add, Nat.reduceAdd]
                rw [e10]
                have HXW := hide hq
                clear hf hq HC0 HCM HLN HKP e10
                go_wp2_with fail
                go_roundg (gk - 1)
                case measure => omega
                case rel => exact ⟨i + 1, by omega, by go_num, by omega, kv, _, _, HXW.out⟩
      · have hd1 : decide ((i : Int) < (n : Int)) = false := by simp; omega
        have hd0 : decide (i < n) = false := by simp; omega
        obtain rfl : i = n := by omega
        obtain ⟨-, kv, vk, vv, hX⟩ := hp
        have HX0 := hide hX
        clear hX HCL HSL
        go_wp2_with fail
        go_loopg [] kv.length (fun g wx => ∃ (i2 : Nat) (kv2 : List (Int × Int)) (vk2 vv2 : Value), kv2.length = g ∧ PXq w hb lb gb mb i2 kv2 kv2 vk2 vv2 wx)
        case atStart => exact ⟨i, kv, vk, vv, rfl, HX0.out⟩
        case round =>
          clear HX0
          clear kv vk vv
          obtain ⟨i2, kv, vk, vv, hlen, hX⟩ := hrel
          have HXR := hide hX
          have h64 := hX.l64
          obtain ⟨A1, c1, A2, c2, ek, ev, -⟩ := hX.oq.rq
          obtain ⟨cK, cL, hmb, -, -⟩ := hX.oq.k
          rw [ek] at cK
          clear ek ev hX
          obtain ⟨len, elen⟩ : ∃ len, len = kv.length := ⟨_, rfl⟩
          rw [← elen] at cK hlen h64
          by_cases hlt2 : 0 < len
          · have dl1 : decide ((0 : Int) < (len : Int)) = true := by simp; omega
            have dl2 : decide (0 < len) = true := by simpa using hlt2
            have dl3 : (0 : Int) < (len : Int) := by omega
            have HLT : Hid (0 < kv.length) := by rw [← elen]; exact hlt2
            have HH64 : Hid (kv.length ≤ 64) := by rw [← elen]; exact h64
            have HLQ := hide elen
            obtain ⟨px, epx⟩ : ∃ px, px = (lsP kv).1 := ⟨_, rfl⟩
            obtain ⟨py, epy⟩ : ∃ py, py = (lsP kv).2 := ⟨_, rfl⟩
            have HPX := hide epx
            have HPY := hide epy
            have dxx : (px != px) = false := by simp
            have dyy : (py != py) = false := by simp
            clear epx epy elen
            go_wp2_with (first
              | (go_at_call 28; go_loud (refine (pxq_rpop2 HXR.out HH64.out HLT.out HPX.out HPY.out).mono ?_); rintro e w12 ⟨rfl, v4, v5, hX⟩; have HX12 := hide hX; clear hX cK cL hmb)
              | (go_at_call 27; go_loud (refine (pxq_pop2 HX12.out HLT.out HPX.out HPY.out).mono ?_); rintro e w13 ⟨rfl, hX⟩; have HX13 := hide hX; clear hX))
            go_roundg (gk - 1)
            case measure => omega
            case rel => exact ⟨i2 + 1, popY kv, v4, v5, by have := popY_len HLT.out; have := HLQ.out; omega, HX13.out⟩
          · have dl1 : decide ((0 : Int) < (len : Int)) = false := by simp; omega
            have dl2 : decide (0 < len) = false := by simpa using hlt2
            have dl3 : ¬ (0 : Int) < (len : Int) := by omega
            have HLE : Hid (Calls Tryz.prog 56 #[.pointer (some ⟨lb, 0, none⟩)] wr fun e W' => e = .returned (.int .i64 0) ∧ PXq w hb lb gb mb i2 kv kv vk vv W') := by
              have h := pxq_len HXR.out
              rw [show kv.length = 0 by omega] at h
              exact h
            clear elen
            go_wp2_with (first
              | (go_at_call 56; refine (HLE.out).mono ?_; rintro e w5 ⟨rfl, hX5⟩; have HX5 := hide hX5; clear hX5)
              | (go_at_call 32; refine (pxq_close HX5.out).mono ?_; rintro e w6 ⟨rfl, hX6⟩; have HX6 := hide hX6; clear hX6)
              | (go_at_call 40; refine (HLF.out _ HX6.out).mono ?_; rintro e w7 ⟨rfl, hX7⟩; have HX7 := hide hX7; clear hX7)
              | (go_at_call 55; refine (HLC.out _ HX7.out).mono ?_; rintro e w8 ⟨rfl, hX8⟩; have HX8 := hide hX8; clear hX8)
              | (go_at_call 38; refine (HKN.out _).mono ?_; rintro e w9 ⟨rfl, hX9⟩; have HX9 := hide hX9; clear hX9))
            go_ret
            exact ⟨rfl, HX8.out.trans HX9.out⟩
end Go.Proofs.YtdaklffbfadghaaGreat
