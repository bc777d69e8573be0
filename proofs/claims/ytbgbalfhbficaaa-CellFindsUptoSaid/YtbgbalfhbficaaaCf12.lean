/- find of the reference. find of the program's coder. Copy of the program, Same of the reference. A layout and a target that came in, opened, with the count of the layout. Long of chapter 06's laws. Find of both. The law CellFinds: its walk. Conditions: as each theorem says. -/
import Derived.Test.YtbgbalfhbficaaaCf11
import Derived.Test.YtbgbalfhbficaaaCf3
namespace Go.Proofs.Ytbgbalfhbficaaa
open Go.RowKit
set_option linter.unusedVariables false
set_option linter.unusedSimpArgs false
/-- a region that lays a new block (operation k) and stores into it whole (operation k2) -/
def CN (k k2 : Nat) (w0 : World) (ty : TypeId) (xs ys : Array Value) (S : Nat → Bool) (f : Nat → Value) (W : World) : Prop :=
  Q w0 W ∧ (S k = true → ∃ q, f k = .pointer (some ⟨q, 0, none⟩) ∧ w0.heap.size ≤ q ∧ W.heap[q]? = some (.cells (if S k2 = true then ys else xs) ty (0, 0)))
theorem CN.q {k k2 : Nat} {w0 : World} {ty : TypeId} {xs ys : Array Value} {S S2 : Nat → Bool} {f f2 : Nat → Value} {w1 w2 : World} (hk : ∀ i, Ri.isIn [k, k2] i = true → S2 i = S i ∧ f2 i = f i) (h : CN k k2 w0 ty xs ys S f w1) (hq : Q w1 w2) : CN k k2 w0 ty xs ys S2 f2 w2 := by
  obtain ⟨x1, x2⟩ := hk k (by simp [Ri.isIn])
  obtain ⟨y1, y2⟩ := hk k2 (by simp [Ri.isIn])
  refine ⟨h.1.trans hq, fun hS => ?_⟩
  rw [x1] at hS
  obtain ⟨q, e, hl, hb⟩ := h.2 hS
  refine ⟨q, x2.trans e, hl, ?_⟩
  rw [y1]
  exact (hq.below.block q (Array.getElem?_eq_some_iff.1 hb).1).trans hb
theorem CN.alloc {k k2 : Nat} {w0 : World} {ty : TypeId} {xs ys : Array Value} {S : Nat → Bool} {f : Nat → Value} {w1 : World} (h : CN k k2 w0 ty xs ys S f w1) (hS2 : S k2 = false) (hne : k2 ≠ k) {v : Value} (hv : v = .pointer (some ⟨w1.heap.size, 0, none⟩)) : CN k k2 w0 ty xs ys (Ri.upd S k true) (Ri.upd f k v) (w1.alloc (.cells xs ty)) := by
  refine ⟨h.1.alloc _, fun _ => ⟨w1.heap.size, by rw [Ri.upd_at]; exact hv, h.1.size, ?_⟩⟩
  rw [Ri.upd_ne _ _ hne, hS2, if_neg (by decide)]
  exact heap_alloc_new w1 _
theorem CN.store {k k2 : Nat} {w0 : World} {ty : TypeId} {xs ys : Array Value} {S : Nat → Bool} {f : Nat → Value} {w1 : World} (h : CN k k2 w0 ty xs ys S f w1) (hS : S k = true) (hne : k ≠ k2) {q : Nat} (hq : f k = .pointer (some ⟨q, 0, none⟩)) (v : Value) : CN k k2 w0 ty xs ys (Ri.upd S k2 true) (Ri.upd f k2 v) (w1.setRow q ys) := by
  obtain ⟨q', e, hl, hb⟩ := h.2 hS
  rw [hq] at e
  injection e with e
  injection e with e
  injection e with e
  subst e
  refine ⟨q_setRow h.1 hl, fun _ => ⟨q, by rw [Ri.upd_ne _ _ hne]; exact hq, hl, ?_⟩⟩
  rw [Ri.upd_at, if_pos rfl]
  exact setRow_heap w1 q _ _ _ _ hb
namespace Ri
theorem run_allocQ {o : Oper} {A : Act} {W : World} (ho : o.op = .alloc 107) : (execOp A.eval o).run Try.prog W = .ok (.value (.pointer (some ⟨W.heap.size, 0, none⟩))) (W.alloc (.cells #[.int .i64 0, .int .i64 0, .int .i64 0, .bool false, .slice none 0 0] 107)) := by
  unfold execOp
  simp only [ho]
  have h : (Instr.alloc 107 true (.tuple #[])).run Try.prog W = .ok (.pointer (some ⟨W.heap.size, 0, none⟩)) (W.alloc (.cells #[.int .i64 0, .int .i64 0, .int .i64 0, .bool false, .slice none 0 0] 107)) := by kernel_rfl
  simp [Sem.run_bind, h, Result.andThen]
theorem wp_valY {P : Program} {R : Exit → Act → World → Prop} {o : Oper} {A : Act} {w w' : World} {C φ : Value → World → Prop} (v : Value) (h : (execOp A.eval o).run P w = .ok (.value v) w') (hC : C v w') (hφ : φ v w') : o.wp P A w (fun a' w' => ∃ v, a' = A.put o.dst v ∧ C v w' ∧ φ v w') R := by
  unfold Oper.wp
  rw [h]
  exact ⟨v, rfl, hC, hφ⟩
end Ri
/-- where a walk along a path stands: the boxes of the layout, the target and the result -/
structure Fnd (wd : Int) (b : Bool) (ty : TypeId) (W : World) (l : Lay) (xs : List Int) (gl gt gr : Nat) (j : Nat) (at_ : Int) (lj : Lay) (wr : World) : Prop where
  fd : findL wd l 0 (xs.take j) = (at_, lj, 0)
  q : Q W wr
  bl : wr.heap[gl]? = some (.cells (encL lj).toArray 24 (0, 0))
  bt : wr.heap[gt]? = some (.cells #[.int .i64 wd, .bool b] ty (0, 0))
  br : wr.heap[gr]? = some (.cells #[.int .i64 0, .int .i64 0, .bool false, .slice none 0 0] 24 (0, 0))
theorem Fnd.up {wd : Int} {b : Bool} {ty : TypeId} {W : World} {l : Lay} {xs : List Int} {gl gt gr j : Nat} {at_ : Int} {lj : Lay} {wr w' : World} (h : Fnd wd b ty W l xs gl gt gr j at_ lj wr) (hq : Q wr w') : Fnd wd b ty W l xs gl gt gr j at_ lj w' :=
  ⟨h.fd, h.q.trans hq, blk_q h.bl hq, blk_q h.bt hq, blk_q h.br hq⟩
theorem take_snoc {xs : List Int} {j : Nat} {x : Int} (hx : xs[j]? = some x) : xs.take (j + 1) = xs.take j ++ [x] := by
  rw [List.take_add_one, hx]
  rfl
theorem Fnd.next {wd : Int} {b : Bool} {ty : TypeId} {W : World} {l : Lay} {xs : List Int} {gl gt gr j : Nat} {at_ : Int} {lj : Lay} {wr : World} (h : Fnd wd b ty W l xs gl gt gr j at_ lj wr) {x : Int} (hx : xs[j]? = some x) (hs : stE lj x = 0) (hg : W.heap.size ≤ gl) (h1 : gt ≠ gl) (h2 : gr ≠ gl) {cs : Array Value} (hc : cs = (encL (stL lj x)).toArray) : Fnd wd b ty W l xs gl gt gr (j + 1) (at_ + stA wd lj x) (stL lj x) (wr.setRow gl cs) := by
  refine ⟨?_, q_setRow h.q hg, ?_, (setRow_other wr gl gt _ h1).trans h.bt, (setRow_other wr gl gr _ h2).trans h.br⟩
  · rw [take_snoc hx, findL_snoc _ _ _ _ _ _ h.fd]
    simp only [findL]
    rw [if_pos hs]
  · rw [hc]
    exact setRow_heap wr gl _ _ _ _ h.bl
theorem Fnd.stop {wd : Int} {b : Bool} {ty : TypeId} {W : World} {l : Lay} {xs : List Int} {gl gt gr j : Nat} {at_ : Int} {lj : Lay} {wr : World} (h : Fnd wd b ty W l xs gl gt gr j at_ lj wr) {x : Int} (hx : xs[j]? = some x) (hs : stE lj x ≠ 0) : findL wd l 0 xs = (0, noL, stE lj x) := by
  have h1 : findL wd l 0 (xs.take (j + 1)) = (0, noL, stE lj x) := by
    rw [take_snoc hx, findL_snoc _ _ _ _ _ _ h.fd]
    simp only [findL]
    rw [if_neg hs]
  rw [← List.take_append_drop (j + 1) xs, findL_bad _ _ _ _ (by rw [h1]; exact hs), h1]
theorem Fnd.start {wd : Int} {b : Bool} {ty : TypeId} {W : World} {l : Lay} {xs : List Int} {gl gt gr : Nat} {wr : World} (q : Q W wr) (bl : wr.heap[gl]? = some (.cells (encL l).toArray 24 (0, 0))) (bt : wr.heap[gt]? = some (.cells #[.int .i64 wd, .bool b] ty (0, 0))) (br : wr.heap[gr]? = some (.cells #[.int .i64 0, .int .i64 0, .bool false, .slice none 0 0] 24 (0, 0))) : Fnd wd b ty W l xs gl gt gr 0 0 l wr := ⟨by simp [findL], q, bl, bt, br⟩
theorem set4row {w : World} {g : Nat} {a0 a1 a2 a3 : Value} {ty : TypeId} (h : w.heap[g]? = some (.cells #[a0, a1, a2, a3] ty (0, 0))) (v0 v1 v2 v3 : Value) : ((((w.setCell ⟨g, 0, none⟩ v0).setCell ⟨g, 1, none⟩ v1).setCell ⟨g, 2, none⟩ v2).setCell ⟨g, 3, none⟩ v3) = w.setRow g #[v0, v1, v2, v3] := by
  have h1 := setRow_heap w g _ #[v0, a1, a2, a3] ty (0, 0) h
  have h2 := setRow_heap w g _ #[v0, v1, a2, a3] ty (0, 0) h
  have h3 := setRow_heap w g _ #[v0, v1, v2, a3] ty (0, 0) h
  have e0 : w.setCell ⟨g, 0, none⟩ v0 = w.setRow g #[v0, a1, a2, a3] := setCell_eq_setRow w g 0 _ ty (0, 0) v0 h
  have e1 : (w.setRow g #[v0, a1, a2, a3]).setCell ⟨g, 1, none⟩ v1 = w.setRow g #[v0, v1, a2, a3] := (setCell_eq_setRow _ g 1 _ ty (0, 0) v1 h1).trans (setRow_setRow ..)
  have e2 : (w.setRow g #[v0, v1, a2, a3]).setCell ⟨g, 2, none⟩ v2 = w.setRow g #[v0, v1, v2, a3] := (setCell_eq_setRow _ g 2 _ ty (0, 0) v2 h2).trans (setRow_setRow ..)
  have e3 : (w.setRow g #[v0, v1, v2, a3]).setCell ⟨g, 3, none⟩ v3 = w.setRow g #[v0, v1, v2, v3] := (setCell_eq_setRow _ g 3 _ ty (0, 0) v3 h3).trans (setRow_setRow ..)
  rw [e0, e1, e2, e3]
/-- what is known on the way -/
theorem Fnd.know {wd : Int} {b : Bool} {ty : TypeId} {w W : World} {l : Lay} {xs : List Int} {gl gt gr j : Nat} {at_ : Int} {lj : Lay} {wr : World} (h : Fnd wd b ty W l xs gl gt gr j at_ lj wr) (hl : LayR w l) (ho : Okw wd l) (hc : l.count ≤ 1048576) : LayR w lj ∧ Okw wd lj ∧ lj.count ≤ 1048576 ∧ 0 ≤ at_ ∧ at_ ≤ 4096 * xs.length := by
  obtain ⟨x1, x2, x3, x4, x5, -⟩ := find_al (xs.take j) l 0 hl ho (Int.le_refl 0) (Int.zero_emod _) _ _ h.fd
  have hlen : ((xs.take j).length : Int) ≤ xs.length := by rw [List.length_take]; omega
  exact ⟨x1, x2, by omega, x4, by omega⟩
theorem box3h {w w3 : World} {c d e : Obj} (h : ((w.alloc c).alloc d).alloc e = w3) : w3.heap[w.heap.size]? = some c ∧ w3.heap[w.heap.size + 1]? = some d ∧ w3.heap[w.heap.size + 2]? = some e := by
  subst h
  refine ⟨?_, ?_, ?_⟩
  · rw [heap_alloc_old _ _ (by simp <;> omega), heap_alloc_old _ _ (by simp <;> omega)]
    exact heap_alloc_new w c
  · rw [heap_alloc_old _ _ (by simp <;> omega)]
    have := heap_alloc_new (w.alloc c) d
    simpa using this
  · have := heap_alloc_new ((w.alloc c).alloc d) e
    simpa using this
set_option maxRecDepth 100000 in
set_option maxHeartbeats 2000000 in
theorem find06_any {w : World} {l : Lay} (h : LayR w l) (hc : l.count ≤ 1048576) (wd : Int) (b : Bool) (ho : Okw wd l) {A6 : Option Addr} {n6 c6 : Nat} {xs : List Int} (hp : Sl 1 (encI .i64) w A6 n6 c6 xs) (h50 : n6 ≤ 50) : ∀ W, Q w W → Calls Try.prog 48 #[l.v, tgW wd b, .slice A6 n6 c6] W (R1 W (.tuple #[.int .i64 (findL wd l 0 xs).1, (findL wd l 0 xs).2.1.v, .int .i64 (findL wd l 0 xs).2.2])) := by
  intro W hqW
  unfold R1
  obtain ⟨k, n, f, A, len, cap, hlv, hle⟩ := enc_v l
  obtain ⟨w2, hw2⟩ : ∃ w2, ((W.alloc (.cells (encL l).toArray 24)).alloc (.cells #[.int .i64 wd, .bool b] 26)).alloc (.cells #[.int .i64 0, .int .i64 0, .bool false, .slice none 0 0] 24) = w2 := ⟨_, rfl⟩
  obtain ⟨hq2, hs2, -, -, -⟩ := box3 hw2
  obtain ⟨hb0, hb1, hb2⟩ := box3h hw2
  have HF0 := hide (Fnd.start (wd := wd) (b := b) (xs := xs) hq2 hb0 hb1 hb2)
  have hlt0 : W.heap.size < w2.heap.size := by omega
  have hlt1 : W.heap.size + 1 < w2.heap.size := by omega
  have hlt2 : W.heap.size + 2 < w2.heap.size := by omega
  rw [hle] at hw2
  rw [hlv]
  have HW2 := hide hw2
  have HWQ := hide hqW
  have H := hide h
  have HO := hide ho
  have HP := hide hp
  have HLN := hide hp.len
  clear hb0 hb1 hb2 hlv hle h hp ho hw2 hqW hq2
  go_enter Try.func48, Try.ntmps48
  go_upto_region 1 with fail
  rw [HW2.out]
  go_wp2_with fail
  go_loopw [9, 10] (fun u9 u10 wr => ∃ (j : Nat) (at9 : Int) (lj : Lay), j ≤ n6 ∧ u9 = .int .i64 at9 ∧ u10 = .int .i64 j ∧ Fnd wd b 26 W l xs W.heap.size (W.heap.size + 1) (W.heap.size + 2) j at9 lj wr) (fun _ vi _ => n6 - (intOf vi).toNat)
  case atStart => exact ⟨0, 0, l, by omega, by go_num, by go_num, HF0.out⟩
  case round =>
    obtain ⟨j, at9, lj, hj, rfl, rfl, hfnd⟩ := hrel
    have HFN := hide hfnd
    obtain ⟨y1, y2, y3, y4, y5⟩ := hfnd.know H.out HO.out hc
    rw [HLN.out] at y5
    have hsz := hfnd.q.size
    by_cases hlt9 : j < n6
    · have hd1 : decide ((j : Int) < (n6 : Int)) = true := by simp; omega
      have hd0 : decide (j < n6) = true := by simp; omega
      have hlti : (j : Int) < (n6 : Int) := by omega
      obtain ⟨b6, o6, x9, rfl, hb6', hx9, hc6⟩ := HP.out.at_ (fun _ => rfl) (by decide) j hlt9
      obtain ⟨k5, n5, f5, A5, l5, d5, hv5, he5⟩ := enc_v lj
      have hbl := hfnd.bl
      rw [he5] at hbl
      have HBL := hide hbl
      have HBT := hide hfnd.bt
      have HQR := hide (HWQ.out.trans hfnd.q)
      have HLT := hide hlt9
      have hb6 : b6 < wr.heap.size := Nat.lt_of_lt_of_le hb6' HQR.out.size
      have HC6 : Hid (wr.cell? ⟨b6, o6 + j * 1, none⟩ = some (.int .i64 x9)) := hide ((HQR.out.facts.1 _ _ hb6').trans (by have := hc6 0 _ rfl; simpa using this))
      obtain ⟨a9, ha9⟩ : ∃ a9, stA wd lj x9 = a9 := ⟨_, rfl⟩
      obtain ⟨e9, he9⟩ : ∃ e9, stE lj x9 = e9 := ⟨_, rfl⟩
      obtain ⟨k9, n9, f9, A9, l9, d9, hv9, hc9⟩ := enc_v (stL lj x9)
      have hbd := stA_bd y1 y2 x9
      have HST := hide (fun W' hW' => step_any y1 y3 wd b y2 x9 W' hW')
      unfold plcV at HST
      rw [hv5, ha9, he9, hc9] at HST
      unfold R1 at HST
      rw [ha9] at hbd
      obtain ⟨hbd0, hbd1⟩ := hbd
      have HXJ := hide hx9
      have HC9 := hide hc9
      have HA9 := hide ha9
      have HE9 := hide he9
      clear hfnd hbl hv5 he5 hb6' hx9 hc6 ha9 he9 hv9 hc9 y1 y2 y3
      go_upto_region 5 with fail
      refine Ri.madeY (C := CN 10 11 wr 107 #[.int .i64 0, .int .i64 0, .int .i64 0, .bool false, .slice none 0 0] (#[.int .i64 a9, .int .i64 k9, .int .i64 n9, .bool f9, .slice A9 l9 d9] : Array Value)) [10, 11] [0, 1, 2, 3, 4, 5, 6, 7, 8, 9, 10, 11, 12] [] (fun S0 S2 f f2 w1 w2 hk X hq => X.q hk hq) (Ri.phi [Ri.isV (.agg #[.int .i64 k5, .int .i64 n5, .bool f5, .slice A5 l5 d5]), Ri.isV (tgW wd b), Ri.isV (.slice (some ⟨b6, o6, none⟩) n6 c6), Ri.isV (.int .i64 ((j : Nat) : Int)), Ri.isV (.pointer (some ⟨b6, o6 + j * 1, none⟩)), Ri.isV (.int .i64 x9), Ri.isV (.tuple #[.agg #[.int .i64 a9, .int .i64 k9, .int .i64 n9, .bool f9, .slice A9 l9 d9], .int .i64 e9]), Ri.isV (.tuple #[.agg #[.int .i64 a9, .int .i64 k9, .int .i64 n9, .bool f9, .slice A9 l9 d9], .int .i64 e9]), Ri.isV (.agg #[.int .i64 a9, .int .i64 k9, .int .i64 n9, .bool f9, .slice A9 l9 d9]), Ri.isV (.int .i64 e9), (fun _ _ => True), (fun _ _ => True), Ri.isV (.int .i64 e9)]) (by kernel_rfl) (by kernel_rfl) (by kernel_rfl) (⟨(Q.refl _).drew, fun h => absurd h (by decide)⟩) (Ri.phi_mono ?_) (Ri.phi_fix ?_) ?_ ?_
      · exact ⟨Ri.mono_isV _, Ri.mono_isV _, Ri.mono_isV _, Ri.mono_isV _, Ri.mono_isV _, Ri.mono_isV _, Ri.mono_isV _, Ri.mono_isV _, Ri.mono_isV _, Ri.mono_isV _, (fun _ _ _ h _ => h), (fun _ _ _ h _ => h), Ri.mono_isV _, trivial⟩
      · exact ⟨fun _ => Ri.fix_isV _, fun _ => Ri.fix_isV _, fun _ => Ri.fix_isV _, fun _ => Ri.fix_isV _, fun _ => Ri.fix_isV _, fun _ => Ri.fix_isV _, fun _ => Ri.fix_isV _, fun _ => Ri.fix_isV _, fun _ => Ri.fix_isV _, fun _ => Ri.fix_isV _, (fun _ _ _ _ h => h), (fun _ _ _ _ h => h), fun _ => Ri.fix_isV _, trivial⟩
      · refine Ri.All.cons ?_ (Ri.All.cons ?_ (Ri.All.cons ?_ (Ri.All.cons ?_ (Ri.All.cons ?_ (Ri.All.cons ?_ (Ri.All.cons ?_ (Ri.All.cons ?_ (Ri.All.cons ?_ (Ri.All.cons ?_ (Ri.All.cons ?_ (Ri.All.cons ?_ (Ri.All.cons ?_ (Ri.All.nil)))))))))))))
        · refine Ri.StepY.q (by kernel_rfl) rfl fun S9 g9 W9 hS hD hq hf Ac hA hB hO => ?_
          have e1 := (hB 3 (by kernel_rfl)).trans (show _ = .pointer (some ⟨W.heap.size, 0, none⟩) by simp [Act.eval])
          exact Ri.wp_value _ (Ri.run_ldrow rfl e1 (blk_q HBL.out hq.1) Try.underlying24 rfl (by kernel_rfl)) rfl
        · refine Ri.StepY.q (by kernel_rfl) rfl fun S9 g9 W9 hS hD hq hf Ac hA hB hO => ?_
          have e1 := (hB 4 (by kernel_rfl)).trans (show _ = .pointer (some ⟨W.heap.size + 1, 0, none⟩) by simp [Act.eval])
          exact Ri.wp_value _ (Ri.run_ldrow rfl e1 (blk_q HBT.out hq.1) Try.underlying26 rfl (by kernel_rfl)) rfl
        · refine Ri.StepY.q (by kernel_rfl) rfl fun S9 g9 W9 hS hD hq hf Ac hA hB hO => ?_
          have e1 := (hB 2 (by kernel_rfl)).trans (show _ = .slice (some ⟨b6, o6, none⟩) n6 c6 by simp [Act.eval])
          exact Ri.wp_value _ (Ri.run_mv rfl e1) rfl
        · refine Ri.StepY.q (by kernel_rfl) rfl fun S9 g9 W9 hS hD hq hf Ac hA hB hO => ?_
          have e1 := (hB 10 (by kernel_rfl)).trans (show _ = .int .i64 ((j : Nat) : Int) by simp [Act.eval])
          exact Ri.wp_value _ (Ri.run_mv rfl e1) rfl
        · refine Ri.StepY.q (by kernel_rfl) rfl fun S9 g9 W9 hS hD hq hf Ac hA hB hO => ?_
          have e1 := (hA 22 2 (by kernel_rfl) (by simp)).trans (show g9 2 = _ from hf 2 (by kernel_rfl))
          have e2 := (hA 23 3 (by kernel_rfl) (by simp)).trans (show g9 3 = _ from hf 3 (by kernel_rfl))
          exact Ri.wp_value _ (Ri.run_idx rfl e1 e2 Try.underlying32 (sz := 1) (by kernel_rfl) HLT.out) rfl
        · refine Ri.StepY.q (by kernel_rfl) rfl fun S9 g9 W9 hS hD hq hf Ac hA hB hO => ?_
          have e1 := (hA 24 4 (by kernel_rfl) (by simp)).trans (show g9 4 = _ from hf 4 (by kernel_rfl))
          exact Ri.wp_value _ (Ri.run_ld1 rfl e1 Try.underlying3 rfl ((hq.1.facts.1 _ _ hb6).trans HC6.out)) rfl
        · refine Ri.StepY.q (by kernel_rfl) rfl fun S9 g9 W9 hS hD hq hf Ac hA hB hO => ?_
          have e1 := (hA 20 0 (by kernel_rfl) (by simp)).trans (show g9 0 = _ from hf 0 (by kernel_rfl))
          have e2 := (hA 21 1 (by kernel_rfl) (by simp)).trans (show g9 1 = _ from hf 1 (by kernel_rfl))
          have e3 := (hA 25 5 (by kernel_rfl) (by simp)).trans (show g9 5 = _ from hf 5 (by kernel_rfl))
          refine Ri.wp_call #[.agg #[.int .i64 k5, .int .i64 n5, .bool f5, .slice A5 l5 d5], tgW wd b, .int .i64 x9] rfl (by simp [e1, e2, e3]) Try.func74 (by kernel_rfl) (by kernel_rfl) ((HST.out W9 (HQR.out.trans hq.1)).mono ?_)
          rintro e w9 ⟨rfl, h1⟩
          exact ⟨_, rfl, h1, rfl⟩
        · refine Ri.StepY.q (by kernel_rfl) rfl fun S9 g9 W9 hS hD hq hf Ac hA hB hO => ?_
          have e1 := (hA 26 6 (by kernel_rfl) (by simp)).trans (show g9 6 = _ from hf 6 (by kernel_rfl))
          exact Ri.wp_value _ (Ri.run_mv rfl e1) rfl
        · refine Ri.StepY.q (by kernel_rfl) rfl fun S9 g9 W9 hS hD hq hf Ac hA hB hO => ?_
          have e1 := (hA 19 7 (by kernel_rfl) (by simp)).trans (show g9 7 = _ from hf 7 (by kernel_rfl))
          exact Ri.wp_value _ (Ri.run_ext rfl e1 rfl) rfl
        · refine Ri.StepY.q (by kernel_rfl) rfl fun S9 g9 W9 hS hD hq hf Ac hA hB hO => ?_
          have e1 := (hA 19 7 (by kernel_rfl) (by simp)).trans (show g9 7 = _ from hf 7 (by kernel_rfl))
          exact Ri.wp_value _ (Ri.run_ext rfl e1 rfl) rfl
        · refine Ri.StepY.c (by kernel_rfl) rfl fun S9 g9 W9 hS hD hq hf Ac hA hB hO => ?_
          exact Ri.wp_valY _ (Ri.run_allocQ rfl) (hq.alloc (hO 11 (by kernel_rfl)).1 (by decide) rfl) trivial
        · refine Ri.StepY.c (by kernel_rfl) rfl fun S9 g9 W9 hS hD hq hf Ac hA hB hO => ?_
          obtain ⟨q, eq9, hl9, hbk9⟩ := hq.2 (hD 10 (by kernel_rfl))
          rw [hS, if_neg (by decide)] at hbk9
          have e1 := (hA 11 10 (by kernel_rfl) (by simp)).trans eq9
          have e2 := (hA 27 8 (by kernel_rfl) (by simp)).trans (show g9 8 = _ from hf 8 (by kernel_rfl))
          exact wp_store_row _ _ _ rfl q (#[.int .i64 a9, .int .i64 k9, .int .i64 n9, .bool f9, .slice A9 l9 d9] : Array Value) e1 e2 _ _ hbk9 (by kernel_rfl) rfl (by simp [Value.oneCell']) ⟨undef, rfl, hq.store (hD 10 (by kernel_rfl)) (by decide) eq9 _, trivial⟩
        · refine Ri.StepY.q (by kernel_rfl) rfl fun S9 g9 W9 hS hD hq hf Ac hA hB hO => ?_
          have e1 := (hA 28 9 (by kernel_rfl) (by simp)).trans (show g9 9 = _ from hf 9 (by kernel_rfl))
          exact Ri.wp_value _ (Ri.run_asg rfl e1) rfl
      · intro S9 g9 w8 hS hq8 hf
        obtain ⟨q8, hp8, hl8, hbk8⟩ := hq8.2 (hS 10 (by simp))
        rw [hS 11 (by simp), if_pos rfl] at hbk8
        have hq28 := hq8.1
        have hf12 := hf 12 (by simp) (by kernel_rfl)
        simp only [Ri.phi, List.getD_cons_zero, List.getD_cons_succ, Ri.isV] at hf12
        simp only [Ri.acts, Act.put, List.setIfInBounds_toArray, List.set_cons_zero, List.set_cons_succ, Nat.zero_add, Nat.reduceAdd]
        rw [hp8, hf12]
        clear hf hS hp8 hf12
        have HQ28 := hide hq28
        have HFN8 := hide (HFN.out.up hq28)
        have hbl8 := blk_q HBL.out hq28
        have hbr8 := HFN8.out.br
        have c0 : w8.cell? ⟨q8, 0, none⟩ = some (.int .i64 a9) := cell_blkJ hbk8 rfl
        have c1 : w8.cell? ⟨q8, 1, none⟩ = some (.int .i64 k9) := cell_blkJ hbk8 rfl
        have c2 : w8.cell? ⟨q8, 2, none⟩ = some (.int .i64 n9) := cell_blkJ hbk8 rfl
        have c3 : w8.cell? ⟨q8, 3, none⟩ = some (.bool f9) := cell_blkJ hbk8 rfl
        have c4 : w8.cell? ⟨q8, 4, none⟩ = some (.slice A9 l9 d9) := cell_blkJ hbk8 rfl
        by_cases hz : e9 = 0
        · have dz : (e9 != 0) = false := by simp [hz]
          have HNX := hide (HFN8.out.next HXJ.out (HE9.out.trans hz) (Nat.le_refl _) (by omega) (by omega) (cs := #[.int .i64 k9, .int .i64 n9, .bool f9, .slice A9 l9 d9]) (by rw [HC9.out]))
          rw [← set4row hbl8, HA9.out] at HNX
          have z0 : w8.cell? ⟨W.heap.size, 0, none⟩ = some (.int .i64 k5) := cell_blkJ hbl8 rfl
          have zf0 : w8.frozen? ⟨W.heap.size, 0, none⟩ = false := frz_new (j := 0) hbl8
          have z1 : w8.cell? ⟨W.heap.size, 1, none⟩ = some (.int .i64 n5) := cell_blkJ hbl8 rfl
          have zf1 : w8.frozen? ⟨W.heap.size, 1, none⟩ = false := frz_new (j := 1) hbl8
          have z2 : w8.cell? ⟨W.heap.size, 2, none⟩ = some (.bool f5) := cell_blkJ hbl8 rfl
          have zf2 : w8.frozen? ⟨W.heap.size, 2, none⟩ = false := frz_new (j := 2) hbl8
          have z3 : w8.cell? ⟨W.heap.size, 3, none⟩ = some (.slice A5 l5 d5) := cell_blkJ hbl8 rfl
          have zf3 : w8.frozen? ⟨W.heap.size, 3, none⟩ = false := frz_new (j := 3) hbl8
          clear hz hq28 hq8 hsz hbk8 hbl8 hbr8 hl8
          go_wp2_with fail
          go_roundw
          case rel => exact ⟨j + 1, at9 + a9, stL lj x9, by omega, by go_num, by go_num, HNX.out⟩
          case measure => simp [intOf] <;> omega
        · have dz : (e9 != 0) = true := by simp [hz]
          have RES := hide (HFN8.out.stop HXJ.out (by rw [HE9.out]; exact hz))
          have hqw8 := HFN8.out.q
          have r0 : w8.cell? ⟨W.heap.size + 2, 0, none⟩ = some (.int .i64 0) := cell_blkJ hbr8 rfl
          have rf0 : w8.frozen? ⟨W.heap.size + 2, 0, none⟩ = false := frz_new (j := 0) hbr8
          have r1 : w8.cell? ⟨W.heap.size + 2, 1, none⟩ = some (.int .i64 0) := cell_blkJ hbr8 rfl
          have rf1 : w8.frozen? ⟨W.heap.size + 2, 1, none⟩ = false := frz_new (j := 1) hbr8
          have r2 : w8.cell? ⟨W.heap.size + 2, 2, none⟩ = some (.bool false) := cell_blkJ hbr8 rfl
          have rf2 : w8.frozen? ⟨W.heap.size + 2, 2, none⟩ = false := frz_new (j := 2) hbr8
          have r3 : w8.cell? ⟨W.heap.size + 2, 3, none⟩ = some (.slice none 0 0) := cell_blkJ hbr8 rfl
          have rf3 : w8.frozen? ⟨W.heap.size + 2, 3, none⟩ = false := frz_new (j := 3) hbr8
          have HS5 := hide (set4c (.int .i64 0) (.int .i64 0) (.bool false) (.slice none 0 0) r0 r1 r2 r3 _ rfl)
          have HQS := hide (q_set4 (b := W.heap.size + 2) (.int .i64 0) (.int .i64 0) (.bool false) (.slice none 0 0) (hqw8) (by omega))
          clear hz hq28 hq8 hsz hbk8 hbl8 hbr8 hl8 c0 c1 c2 c3 c4 hqw8
          go_wp2_with fail
          obtain ⟨s0, s1, s2, s3⟩ := HS5.out
          refine bodyPost_ret (v := .tuple #[.int .i64 0, .agg #[.int .i64 0, .int .i64 0, .bool false, .slice none 0 0], .int .i64 e9]) (by simp [results, Try.results48, go_sem, s0, s1, s2, s3]) rfl ?_
          exact ⟨by rw [RES.out, HE9.out] <;> rfl, HQS.out⟩
    · have hd1 : decide ((j : Int) < (n6 : Int)) = false := by simp; omega
      have hd0 : decide (j < n6) = false := by simp; omega
      obtain rfl : j = n6 := by omega
      obtain ⟨k5, n5, f5, A5, l5, d5, hv5, he5⟩ := enc_v lj
      have hbl8 := hfnd.bl
      have hbr8 := hfnd.br
      have hqw8 := hfnd.q
      have RES := hide hfnd.fd
      rw [← HLN.out, List.take_length] at RES
      rw [he5] at hbl8
      have HV5 := hide hv5
      have z0 : wr.cell? ⟨W.heap.size, 0, none⟩ = some (.int .i64 k5) := cell_blkJ hbl8 rfl
      have z1 : wr.cell? ⟨W.heap.size, 1, none⟩ = some (.int .i64 n5) := cell_blkJ hbl8 rfl
      have z2 : wr.cell? ⟨W.heap.size, 2, none⟩ = some (.bool f5) := cell_blkJ hbl8 rfl
      have z3 : wr.cell? ⟨W.heap.size, 3, none⟩ = some (.slice A5 l5 d5) := cell_blkJ hbl8 rfl
      have r0 : wr.cell? ⟨W.heap.size + 2, 0, none⟩ = some (.int .i64 0) := cell_blkJ hbr8 rfl
      have rf0 : wr.frozen? ⟨W.heap.size + 2, 0, none⟩ = false := frz_new (j := 0) hbr8
      have r1 : wr.cell? ⟨W.heap.size + 2, 1, none⟩ = some (.int .i64 0) := cell_blkJ hbr8 rfl
      have rf1 : wr.frozen? ⟨W.heap.size + 2, 1, none⟩ = false := frz_new (j := 1) hbr8
      have r2 : wr.cell? ⟨W.heap.size + 2, 2, none⟩ = some (.bool false) := cell_blkJ hbr8 rfl
      have rf2 : wr.frozen? ⟨W.heap.size + 2, 2, none⟩ = false := frz_new (j := 2) hbr8
      have r3 : wr.cell? ⟨W.heap.size + 2, 3, none⟩ = some (.slice none 0 0) := cell_blkJ hbr8 rfl
      have rf3 : wr.frozen? ⟨W.heap.size + 2, 3, none⟩ = false := frz_new (j := 3) hbr8
      have HS5 := hide (set4c (.int .i64 k5) (.int .i64 n5) (.bool f5) (.slice A5 l5 d5) r0 r1 r2 r3 _ rfl)
      have HQS := hide (q_set4 (b := W.heap.size + 2) (.int .i64 k5) (.int .i64 n5) (.bool f5) (.slice A5 l5 d5) (hqw8) (by omega))
      clear hbl8 hbr8 hqw8 hfnd hv5 he5
      go_upto_region 10 with fail
      go_region
      go_wp2_with fail
      obtain ⟨s0, s1, s2, s3⟩ := HS5.out
      refine bodyPost_ret (v := .tuple #[.int .i64 at9, .agg #[.int .i64 k5, .int .i64 n5, .bool f5, .slice A5 l5 d5], .int .i64 0]) (by simp [results, Try.results48, go_sem, s0, s1, s2, s3]) rfl ?_
      exact ⟨by rw [RES.out, HV5.out] <;> rfl, HQS.out.drew⟩
end Go.Proofs.Ytbgbalfhbficaaa

namespace Go.Proofs.Ytbgbalfhbficaaa
open Go.RowKit
set_option linter.unusedVariables false
set_option linter.unusedSimpArgs false
set_option maxRecDepth 100000 in
set_option maxHeartbeats 2000000 in
theorem pfind_any {w : World} {l : Lay} (h : LayR w l) (hc : l.count ≤ 1048576) (wd : Int) (b : Bool) (ho : Okw wd l) {A6 : Option Addr} {n6 c6 : Nat} {xs : List Int} (hp : Sl 1 (encI .i64) w A6 n6 c6 xs) (h50 : n6 ≤ 50) : ∀ W, Q w W → Calls Try.prog 41 #[tgW wd b, l.v, .slice A6 n6 c6] W (R1 W (.tuple #[.int .i64 (findL wd l 0 xs).1, (findL wd l 0 xs).2.1.v, .int .i64 (findL wd l 0 xs).2.2])) := by
  intro W hqW
  unfold R1
  obtain ⟨k, n, f, A, len, cap, hlv, hle⟩ := enc_v l
  obtain ⟨w2, hw2⟩ : ∃ w2, ((W.alloc (.cells #[.int .i64 wd, .bool b] 60)).alloc (.cells (encL l).toArray 24)).alloc (.cells #[.int .i64 0, .int .i64 0, .bool false, .slice none 0 0] 24) = w2 := ⟨_, rfl⟩
  obtain ⟨hq2, hs2, -, -, -⟩ := box3 hw2
  obtain ⟨hb0, hb1, hb2⟩ := box3h hw2
  have HF0 := hide (Fnd.start (wd := wd) (b := b) (xs := xs) hq2 hb1 hb0 hb2)
  have hlt0 : W.heap.size < w2.heap.size := by omega
  have hlt1 : W.heap.size + 1 < w2.heap.size := by omega
  have hlt2 : W.heap.size + 2 < w2.heap.size := by omega
  rw [hle] at hw2
  rw [hlv]
  have HW2 := hide hw2
  have HWQ := hide hqW
  have H := hide h
  have HO := hide ho
  have HP := hide hp
  have HLN := hide hp.len
  clear hb0 hb1 hb2 hlv hle h hp ho hw2 hqW hq2
  go_enter Try.func41, Try.ntmps41
  go_upto_region 1 with fail
  rw [HW2.out]
  go_wp2_with fail
  go_loopw [9, 17] (fun u9 u10 wr => ∃ (j : Nat) (at9 : Int) (lj : Lay), j ≤ n6 ∧ u9 = .int .i64 at9 ∧ u10 = .int .i64 j ∧ Fnd wd b 60 W l xs (W.heap.size + 1) W.heap.size (W.heap.size + 2) j at9 lj wr) (fun _ vi _ => n6 - (intOf vi).toNat)
  case atStart => exact ⟨0, 0, l, by omega, by go_num, by go_num, HF0.out⟩
  case round =>
    obtain ⟨j, at9, lj, hj, rfl, rfl, hfnd⟩ := hrel
    have HFN := hide hfnd
    obtain ⟨y1, y2, y3, y4, y5⟩ := hfnd.know H.out HO.out hc
    rw [HLN.out] at y5
    have hsz := hfnd.q.size
    by_cases hlt9 : j < n6
    · have hd1 : decide ((j : Int) < (n6 : Int)) = true := by simp; omega
      have hd0 : decide (j < n6) = true := by simp; omega
      have hlti : (j : Int) < (n6 : Int) := by omega
      obtain ⟨b6, o6, x9, rfl, hb6', hx9, hc6⟩ := HP.out.at_ (fun _ => rfl) (by decide) j hlt9
      obtain ⟨k5, n5, f5, A5, l5, d5, hv5, he5⟩ := enc_v lj
      have hbl := hfnd.bl
      rw [he5] at hbl
      have hbt := hfnd.bt
      have HBL := hide hbl
      have HQR := hide (HWQ.out.trans hfnd.q)
      have HLT := hide hlt9
      have hb6 : b6 < wr.heap.size := Nat.lt_of_lt_of_le hb6' HQR.out.size
      have p6 : wr.cell? ⟨b6, o6 + j * 1, none⟩ = some (.int .i64 x9) := (HQR.out.facts.1 _ _ hb6').trans (by have := hc6 0 _ rfl; simpa using this)
      have p6' : wr.cell? ⟨b6, o6 + j, none⟩ = some (.int .i64 x9) := by have := p6; rwa [Nat.mul_one] at this
      obtain ⟨a9, ha9⟩ : ∃ a9, stA wd lj x9 = a9 := ⟨_, rfl⟩
      obtain ⟨e9, he9⟩ : ∃ e9, stE lj x9 = e9 := ⟨_, rfl⟩
      obtain ⟨k9, n9, f9, A9, l9, d9, hv9, hc9⟩ := enc_v (stL lj x9)
      have hbd := stA_bd y1 y2 x9
      have HST := hide (fun W' hW' => part_any y1 y3 wd b y2 x9 W' hW')
      rw [hv5, ha9, he9, hv9] at HST
      unfold R1 at HST
      rw [ha9] at hbd
      obtain ⟨hbd0, hbd1⟩ := hbd
      have HXJ := hide hx9
      have HC9 := hide hc9
      have HA9 := hide ha9
      have HE9 := hide he9
      have z0 := cell_blkJ hbl (j := 0) rfl
      have z1 := cell_blkJ hbl (j := 1) rfl
      have z2 := cell_blkJ hbl (j := 2) rfl
      have z3 := cell_blkJ hbl (j := 3) rfl
      have t0 := cell_blkJ hbt (j := 0) rfl
      have t1 := cell_blkJ hbt (j := 1) rfl
      clear hfnd hbl hbt hv5 he5 hb6' hx9 hc6 ha9 he9 hv9 hc9 y1 y2 y3
      go_wp2_with fail
      refine (HST.out wr HQR.out).mono ?_
      rintro e w8 ⟨rfl, hq28⟩
      have HQ28 := hide hq28
      clear hq28 z0 z1 z2 z3 t0 t1 p6 p6'
      obtain ⟨w9, hw9⟩ : ∃ w9, w8.alloc (.cells #[.int .i64 k9, .int .i64 n9, .bool f9, .slice A9 l9 d9] 24) = w9 := ⟨_, rfl⟩
      obtain ⟨hq9, hs9, hc9⟩ := box1 hw9
      have c0 := hc9 0 _ rfl
      have c1 := hc9 1 _ rfl
      have c2 := hc9 2 _ rfl
      have c3 := hc9 3 _ rfl
      have HW9 := hide hw9
      have HQ9 := hide (HQ28.out.trans hq9)
      have HFN9 := hide (HFN.out.up HQ9.out)
      have hbl8 := blk_q HBL.out HQ9.out
      have hbr8 := HFN9.out.br
      have hsz8 := HQ28.out.size
      clear hw9 hc9 hq9
      go_upto_region 6 with fail
      rw [HW9.out]
      by_cases hz : e9 = 0
      · have dz : (e9 != 0) = false := by simp [hz]
        have HNX := hide (HFN9.out.next HXJ.out (HE9.out.trans hz) (by omega) (by omega) (by omega) (cs := #[.int .i64 k9, .int .i64 n9, .bool f9, .slice A9 l9 d9]) (by rw [HC9.out]))
        rw [← set4row hbl8, HA9.out] at HNX
        have z0 : w9.cell? ⟨W.heap.size + 1, 0, none⟩ = some (.int .i64 k5) := cell_blkJ hbl8 rfl
        have zf0 : w9.frozen? ⟨W.heap.size + 1, 0, none⟩ = false := frz_new (j := 0) hbl8
        have z1 : w9.cell? ⟨W.heap.size + 1, 1, none⟩ = some (.int .i64 n5) := cell_blkJ hbl8 rfl
        have zf1 : w9.frozen? ⟨W.heap.size + 1, 1, none⟩ = false := frz_new (j := 1) hbl8
        have z2 : w9.cell? ⟨W.heap.size + 1, 2, none⟩ = some (.bool f5) := cell_blkJ hbl8 rfl
        have zf2 : w9.frozen? ⟨W.heap.size + 1, 2, none⟩ = false := frz_new (j := 2) hbl8
        have z3 : w9.cell? ⟨W.heap.size + 1, 3, none⟩ = some (.slice A5 l5 d5) := cell_blkJ hbl8 rfl
        have zf3 : w9.frozen? ⟨W.heap.size + 1, 3, none⟩ = false := frz_new (j := 3) hbl8
        clear hz hsz hbl8 hbr8
        go_upto_region 8 with fail
        go_region
        go_wp2_with fail
        go_roundw
        case rel => exact ⟨j + 1, at9 + a9, stL lj x9, by omega, by go_num, by go_num, HNX.out.up (Q.refl _).drew⟩
        case measure => simp [intOf] <;> omega
      · have dz : (e9 != 0) = true := by simp [hz]
        have RES := hide (HFN9.out.stop HXJ.out (by rw [HE9.out]; exact hz))
        have hqw8 := HFN9.out.q
        have r0 : w9.cell? ⟨W.heap.size + 2, 0, none⟩ = some (.int .i64 0) := cell_blkJ hbr8 rfl
        have rf0 : w9.frozen? ⟨W.heap.size + 2, 0, none⟩ = false := frz_new (j := 0) hbr8
        have r1 : w9.cell? ⟨W.heap.size + 2, 1, none⟩ = some (.int .i64 0) := cell_blkJ hbr8 rfl
        have rf1 : w9.frozen? ⟨W.heap.size + 2, 1, none⟩ = false := frz_new (j := 1) hbr8
        have r2 : w9.cell? ⟨W.heap.size + 2, 2, none⟩ = some (.bool false) := cell_blkJ hbr8 rfl
        have rf2 : w9.frozen? ⟨W.heap.size + 2, 2, none⟩ = false := frz_new (j := 2) hbr8
        have r3 : w9.cell? ⟨W.heap.size + 2, 3, none⟩ = some (.slice none 0 0) := cell_blkJ hbr8 rfl
        have rf3 : w9.frozen? ⟨W.heap.size + 2, 3, none⟩ = false := frz_new (j := 3) hbr8
        have HS5 := hide (set4c (.int .i64 0) (.int .i64 0) (.bool false) (.slice none 0 0) r0 r1 r2 r3 _ rfl)
        have HQS := hide (q_set4 (b := W.heap.size + 2) (.int .i64 0) (.int .i64 0) (.bool false) (.slice none 0 0) (hqw8) (by omega))
        clear hz hsz hbl8 hbr8 hqw8 c0 c1 c2 c3
        go_wp2_with fail
        obtain ⟨s0, s1, s2, s3⟩ := HS5.out
        refine bodyPost_ret (v := .tuple #[.int .i64 0, .agg #[.int .i64 0, .int .i64 0, .bool false, .slice none 0 0], .int .i64 e9]) (by simp [results, Try.results41, go_sem, s0, s1, s2, s3]) rfl ?_
        exact ⟨by rw [RES.out, HE9.out] <;> rfl, HQS.out⟩
    · have hd1 : decide ((j : Int) < (n6 : Int)) = false := by simp; omega
      have hd0 : decide (j < n6) = false := by simp; omega
      obtain rfl : j = n6 := by omega
      obtain ⟨k5, n5, f5, A5, l5, d5, hv5, he5⟩ := enc_v lj
      have hbl8 := hfnd.bl
      have hbr8 := hfnd.br
      have hqw8 := hfnd.q
      have RES := hide hfnd.fd
      rw [← HLN.out, List.take_length] at RES
      rw [he5] at hbl8
      have HV5 := hide hv5
      have z0 : wr.cell? ⟨W.heap.size + 1, 0, none⟩ = some (.int .i64 k5) := cell_blkJ hbl8 rfl
      have z1 : wr.cell? ⟨W.heap.size + 1, 1, none⟩ = some (.int .i64 n5) := cell_blkJ hbl8 rfl
      have z2 : wr.cell? ⟨W.heap.size + 1, 2, none⟩ = some (.bool f5) := cell_blkJ hbl8 rfl
      have z3 : wr.cell? ⟨W.heap.size + 1, 3, none⟩ = some (.slice A5 l5 d5) := cell_blkJ hbl8 rfl
      have r0 : wr.cell? ⟨W.heap.size + 2, 0, none⟩ = some (.int .i64 0) := cell_blkJ hbr8 rfl
      have rf0 : wr.frozen? ⟨W.heap.size + 2, 0, none⟩ = false := frz_new (j := 0) hbr8
      have r1 : wr.cell? ⟨W.heap.size + 2, 1, none⟩ = some (.int .i64 0) := cell_blkJ hbr8 rfl
      have rf1 : wr.frozen? ⟨W.heap.size + 2, 1, none⟩ = false := frz_new (j := 1) hbr8
      have r2 : wr.cell? ⟨W.heap.size + 2, 2, none⟩ = some (.bool false) := cell_blkJ hbr8 rfl
      have rf2 : wr.frozen? ⟨W.heap.size + 2, 2, none⟩ = false := frz_new (j := 2) hbr8
      have r3 : wr.cell? ⟨W.heap.size + 2, 3, none⟩ = some (.slice none 0 0) := cell_blkJ hbr8 rfl
      have rf3 : wr.frozen? ⟨W.heap.size + 2, 3, none⟩ = false := frz_new (j := 3) hbr8
      have HS5 := hide (set4c (.int .i64 k5) (.int .i64 n5) (.bool f5) (.slice A5 l5 d5) r0 r1 r2 r3 _ rfl)
      have HQS := hide (q_set4 (b := W.heap.size + 2) (.int .i64 k5) (.int .i64 n5) (.bool f5) (.slice A5 l5 d5) (hqw8) (by omega))
      clear hbl8 hbr8 hqw8 hfnd hv5 he5
      go_upto_region 10 with fail
      go_region
      go_wp2_with fail
      obtain ⟨s0, s1, s2, s3⟩ := HS5.out
      refine bodyPost_ret (v := .tuple #[.int .i64 at9, .agg #[.int .i64 k5, .int .i64 n5, .bool f5, .slice A5 l5 d5], .int .i64 0]) (by simp [results, Try.results41, go_sem, s0, s1, s2, s3]) rfl ?_
      exact ⟨by rw [RES.out, HV5.out] <;> rfl, HQS.out.drew⟩
end Go.Proofs.Ytbgbalfhbficaaa

namespace Go.Proofs.Ytbgbalfhbficaaa
open Go.RowKit
set_option linter.unusedVariables false
set_option linter.unusedSimpArgs false
theorem LayR.frame' {w w' : World} {P : Nat → Prop} {l : Lay} (h : LayR w l) (hP : ∀ i, P i → i < w.heap.size → w'.heap[i]? = w.heap[i]?) (hs : w.heap.size ≤ w'.heap.size) : LayB P l → LayR w' l := by
  induction h with
  | @mk k n f A len cap ps h1 h2 h3 h4 h5 _ ih =>
    intro hb
    cases hb with
    | mk b1 b2 =>
      refine .mk h1 h2 ⟨?_, h3.len, h3.cap, h3.most⟩ h4 h5 (fun p hp => ih p hp (b2 p hp))
      rcases h3.rd with h | ⟨b, o, e, hlt, hc⟩
      · exact .inl h
      · exact .inr ⟨b, o, e, Nat.lt_of_lt_of_le hlt hs, fun j u hu => (World.cell?_of_block (a := ⟨b, o + j, none⟩) (hP b (b1 _ e) hlt)).trans (hc j u hu)⟩
theorem len_le_count (l : Lay) : l.parts.length ≤ l.count := by
  cases l with
  | mk k n f A len cap ps =>
    rw [count_mk]
    have : ∀ qs : List Lay, qs.length ≤ (qs.map Lay.count).sum := by
      intro qs
      induction qs with
      | nil => simp
      | cons a r ih =>
        have := count_pos a
        simp only [List.length_cons, List.map_cons, List.sum_cons]
        omega
    have := this ps
    show ps.length ≤ _
    omega
/-- rows that are copied one by one -/
structure Cpd (w2 : World) (ps : List Lay) (j : Nat) (u : Value) (ls : List Lay) (wr : World) : Prop where
  sh : ls.map Lay.ske = (ps.take j).map Lay.ske
  own : wr.ownsRow w2.heap.size 24 4 u j (ls.flatMap encL)
  q : Q w2 wr
  all : ∀ q ∈ ls, LayR wr q ∧ LayB (fun b => w2.heap.size ≤ b ∧ b < wr.heap.size ∧ u.ownBlock ≠ some b) q
theorem Cpd.start (w2 : World) (ps : List Lay) : Cpd w2 ps 0 (.slice none 0 0) [] w2 := ⟨by simp, World.ownsRow_nil _ _ _ _, Q.refl _, fun q h => by cases h⟩
theorem Cpd.next {w2 wr w5 w8 : World} {ps ls : List Lay} {j : Nat} {u v8 : Value} {p l' : Lay} (h : Cpd w2 ps j u ls wr) (hp : ps[j]? = some p) (hq : Q wr w5) (hs : l'.ske = p.ske) (hl : LayR w5 l') {B : Nat} (hB : wr.heap.size ≤ B) (hb : LayB (fun b => B ≤ b ∧ b < w5.heap.size) l')
    (ho : w8.ownsRow w2.heap.size 24 4 v8 (j + 1) (ls.flatMap encL ++ encL l')) (hg : w5.grownBy w8 u.ownBlock) (hv : v8.ownBlock = u.ownBlock ∨ v8.ownBlock = some (w5.heap.size + 1)) : Cpd w2 ps (j + 1) v8 (ls ++ [l']) w8 := by
  have hlt := h.own.lt
  have hs1 := h.q.size
  have hs2 := hq.size
  have hs3 := hg.size
  refine ⟨?_, ?_, q_grown (h.q.trans hq) hg (fun k e => (hlt k e).1), fun q hm => ?_⟩
  · rw [List.map_append, h.sh, List.take_add_one, hp, List.map_append]
    simp [hs]
  · rw [List.flatMap_append]
    simpa using ho
  · rcases List.mem_append.1 hm with hm | hm
    · obtain ⟨r, b⟩ := h.all q hm
      refine ⟨(r.up hq).frame hg (b.mono fun k hk e => hk.2.2 e.symm), b.mono fun k hk => ⟨hk.1, by omega, ?_⟩⟩
      rcases hv with e | e
      · rw [e]; exact hk.2.2
      · rw [e]
        intro e2
        injection e2 with e2
        omega
    · rw [List.mem_singleton] at hm
      subst hm
      refine ⟨hl.frame hg (hb.mono fun k hk e => ?_), hb.mono fun k hk => ⟨by omega, by omega, ?_⟩⟩
      · have := (hlt k e.symm).2
        omega
      · rcases hv with e | e
        · intro e2
          rw [e] at e2
          have := (hlt k e2).2
          omega
        · rw [e]
          intro e2
          injection e2 with e2
          omega
theorem Cpd.end_ {w2 wr : World} {ps ls : List Lay} {len : Nat} {u : Value} (h : Cpd w2 ps len u ls wr) (hl : ps.length = len) (h5 : len ≤ 140737488351232) {k n : Int} {f : Bool} {A : Option Addr} {cap : Nat} (hk : (Lit.int .i64 k).wf = true) (hn : (Lit.int .i64 n).wf = true) : ∃ A' c', u = .slice A' len c' ∧ LayR wr (.mk k n f A' len c' ls) ∧ LayB (fun b => w2.heap.size ≤ b ∧ b < wr.heap.size) (.mk k n f A' len c' ls) ∧ (Lay.mk k n f A' len c' ls).ske = (Lay.mk k n f A len cap ps).ske := by
  have hsh := h.sh
  rw [← hl, List.take_length] at hsh
  have hown := h.own
  have hlt := hown.lt
  have hsk : ∀ A' c', (Lay.mk k n f A' len c' ls).ske = (Lay.mk k n f A len cap ps).ske := fun A' c' => by rw [ske_mk, ske_mk, hsh]
  obtain ⟨A', c', rfl, -⟩ := own_form hown
  refine ⟨A', c', rfl, ?_, ?_, hsk A' c'⟩
  · refine .mk hk hn (Sl.own hown len_encL (by decide)) (fun e => ?_) h5 (fun q hq => (h.all q hq).1)
    subst e
    rcases hown.2 with ⟨e, e2⟩ | ⟨g, c2, cur, e, -⟩
    · injection e with _ e3 e4
      exact ⟨e3, e4⟩
    · injection e with e
      cases e
  · refine .mk (fun a ha => ?_) (fun q hq => (h.all q hq).2.mono fun b hb => ⟨hb.1, hb.2.1⟩)
    subst ha
    exact hlt a.block rfl
set_option maxRecDepth 100000 in
set_option maxHeartbeats 2000000 in
theorem Copy_any {w : World} {l : Lay} (h : LayR w l) : l.count ≤ 1048576 → ∀ W, Q w W → Calls Try.prog 42 #[l.v] W (fun e w' => ∃ l', e = .returned (Lay.v l') ∧ l'.ske = l.ske ∧ LayR w' l' ∧ LayB (fun b => W.heap.size ≤ b ∧ b < w'.heap.size) l' ∧ Q W w') := by
  induction h with
  | @mk k n f A len cap ps hk hn hsl hnil hcap hall ih =>
    intro hcnt W hqW
    have HSL := hide hsl
    have HIH := hide (fun p hp => ih p hp (by have := count_part (l := .mk k n f A len cap ps) hp; omega))
    have hlc : len ≤ 1048576 := by
      have h1 := len_le_count (.mk k n f A len cap ps)
      have h2 : (Lay.mk k n f A len cap ps).parts.length = len := hsl.len
      omega
    have HQW := hide hqW
    have hlen := hsl.len
    have hlb : (len : Int) ≤ 140737488351232 := by omega
    have HK := hide hk
    have HN := hide hn
    have HCAP := hide hcap
    have HLEN := hide hlen
    show Calls _ _ #[.agg #[.int .i64 k, .int .i64 n, .bool f, .slice A len cap]] W _
    obtain ⟨w2, hw2⟩ : ∃ w2, (W.alloc (.cells #[.int .i64 k, .int .i64 n, .bool f, .slice A len cap] 24)).alloc (.cells #[.int .i64 0, .int .i64 0, .bool false, .slice none 0 0] 24) = w2 := ⟨_, rfl⟩
    obtain ⟨hq2, hs2, hc2, hd2⟩ := box2 hw2
    have kb0 : w2.heap[W.heap.size]? = some (.cells #[.int .i64 k, .int .i64 n, .bool f, .slice A len cap] 24 (0, 0)) := by
      rw [← hw2, heap_alloc_old _ _ (by simp)]
      exact heap_alloc_new W _
    have kb1 : w2.heap[W.heap.size + 1]? = some (.cells #[.int .i64 0, .int .i64 0, .bool false, .slice none 0 0] 24 (0, 0)) := by
      have h9 := heap_alloc_new (W.alloc (.cells #[.int .i64 k, .int .i64 n, .bool f, .slice A len cap] 24)) (.cells #[.int .i64 0, .int .i64 0, .bool false, .slice none 0 0] 24)
      rw [hw2] at h9
      simpa using h9
    have k3 : w2.cell? ⟨W.heap.size, 3, none⟩ = some (.slice A len cap) := hc2 3 _ rfl
    have HW2 := hide hw2
    have HWQ := hide (hqW.trans hq2)
    have HQ2 := hide hq2
    have KB0 := hide kb0
    have KB1 := hide kb1
    clear hk hn hsl hnil hcap hall ih hlen hqW hcnt hw2 hc2 hd2 hq2 kb0 kb1
    go_enter Try.func42, Try.ntmps42
    go_upto_region 1 with fail
    rw [HW2.out]
    go_wp2_with fail
    clear k3
    go_loopw [3, 9] (fun u3 u9 wr => ∃ (j : Nat) (ls : List Lay), j ≤ len ∧ u9 = .int .i64 j ∧ Cpd w2 ps j u3 ls wr) (fun _ vi _ => len - (intOf vi).toNat)
    case atStart => exact ⟨0, [], by omega, by go_num, Cpd.start w2 ps⟩
    case round =>
      obtain ⟨j, ls, hj, rfl, hcp⟩ := hrel
      have HCP := hide hcp
      have hsr := hcp.q.size
      by_cases hlt9 : j < len
      · have hd1 : decide ((j : Int) < (len : Int)) = true := by simp; omega
        have hd0 : decide (j < len) = true := by simp; omega
        have hlti : (j : Int) < (len : Int) := by omega
        obtain ⟨g, o, m', x', y', B, l', d', qs, e, hb, hx, z0, z1, z2, z3⟩ := lay_at (HSL.out.up (HWQ.out.trans hcp.q)) hlt9
        cases e
        obtain ⟨p, hpe⟩ : ∃ p, Lay.mk m' x' y' B l' d' qs = p := ⟨_, rfl⟩
        have hpv : p.v = .agg #[.int .i64 m', .int .i64 x', .bool y', .slice B l' d'] := by rw [← hpe]; rfl
        rw [hpe] at hx
        have HPX := hide hx
        have HIP := hide (HIH.out p (List.mem_of_getElem? hx))
        rw [hpv] at HIP
        obtain ⟨v3, hv3⟩ : ∃ v3, u3 = v3 := ⟨_, rfl⟩
        rw [hv3] at HCP ⊢
        obtain ⟨w4, hw4⟩ : ∃ w4, wr.alloc (.cells #[.int .i64 m', .int .i64 x', .bool y', .slice B l' d'] 24) = w4 := ⟨_, rfl⟩
        obtain ⟨hq4, hs4, hc4⟩ := box1 hw4
        have c0 := hc4 0 _ rfl
        have c1 := hc4 1 _ rfl
        have c2 := hc4 2 _ rfl
        have c3 := hc4 3 _ rfl
        have HW4 := hide hw4
        have HQ4 := hide hq4
        have HOW := hide (own_q HCP.out.own hq4)
        clear hcp hx hpe hpv hv3 hw4 hc4 hq4
        go_upto_region 5 with fail
        rw [HW4.out]
        go_wp2_with fail
        refine (HIP.out w4 (HWQ.out.trans (HCP.out.q.trans HQ4.out))).mono ?_
        rintro e w5 ⟨l9, rfl, e1, e2, e3, e4⟩
        obtain ⟨k9, n9, f9, A9, l9', d9, hv9, he9⟩ := enc_v l9
        rw [hv9]
        have E1 := hide e1
        have E2 := hide e2
        have E3 := hide e3
        have E4 := hide e4
        have HE9 := hide he9
        have HS4 := hide hs4
        have hs5 := e4.size
        have HOW5 := hide (own_q HOW.out e4)
        clear e1 e2 e3 e4 hv9 he9 c0 c1 c2 c3 z0 z1 z2 z3 hb
        go_wp2_with (at_builtin; refine wpList_app1f rfl El_lay _ _ rfl rfl HOW5.out (by simp) rfl rfl ?_ ?_ ?_ ?_; (focus (simp [Value.oneCell'])); (focus omega); (focus omega); intro v8 w8 hown8 hg8 hb8; have HO8 := hide hown8; have HG8 := hide hg8; have HB8 := hide hb8; clear hown8 hg8 hb8)
        go_roundw
        case rel => exact ⟨j + 1, ls ++ [l9], by omega, by go_num, HCP.out.next HPX.out (HQ4.out.trans E4.out) E1.out E2.out (B := w4.heap.size) (by have := HS4.out; omega) E3.out (by rw [HE9.out]; exact HO8.out) HG8.out HB8.out⟩
        case measure => simp [intOf] <;> omega
      · have hd1 : decide ((j : Int) < (len : Int)) = false := by simp; omega
        have hd0 : decide (j < len) = false := by simp; omega
        obtain rfl : j = len := by omega
        obtain ⟨A9, c9, rfl, r1, r2, r3⟩ := hcp.end_ (A := A) (cap := cap) (f := f) HLEN.out HCAP.out HK.out HN.out
        have RR1 := hide r1
        have RR2 := hide r2
        have RR3 := hide r3
        have kb0 := blk_q KB0.out hcp.q
        have kb1 := blk_q KB1.out hcp.q
        have z0 : wr.cell? ⟨W.heap.size, 0, none⟩ = some (.int .i64 k) := cell_blkJ kb0 rfl
        have zf0 : wr.frozen? ⟨W.heap.size, 0, none⟩ = false := frz_new (j := 0) kb0
        have z1 : wr.cell? ⟨W.heap.size, 1, none⟩ = some (.int .i64 n) := cell_blkJ kb0 rfl
        have zf1 : wr.frozen? ⟨W.heap.size, 1, none⟩ = false := frz_new (j := 1) kb0
        have z2 : wr.cell? ⟨W.heap.size, 2, none⟩ = some (.bool f) := cell_blkJ kb0 rfl
        have zf2 : wr.frozen? ⟨W.heap.size, 2, none⟩ = false := frz_new (j := 2) kb0
        have z3 : wr.cell? ⟨W.heap.size, 3, none⟩ = some (.slice A j cap) := cell_blkJ kb0 rfl
        have zf3 : wr.frozen? ⟨W.heap.size, 3, none⟩ = false := frz_new (j := 3) kb0
        have v0 : wr.cell? ⟨W.heap.size + 1, 0, none⟩ = some (.int .i64 0) := cell_blkJ kb1 rfl
        have vf0 : wr.frozen? ⟨W.heap.size + 1, 0, none⟩ = false := frz_new (j := 0) kb1
        have v1 : wr.cell? ⟨W.heap.size + 1, 1, none⟩ = some (.int .i64 0) := cell_blkJ kb1 rfl
        have vf1 : wr.frozen? ⟨W.heap.size + 1, 1, none⟩ = false := frz_new (j := 1) kb1
        have v2 : wr.cell? ⟨W.heap.size + 1, 2, none⟩ = some (.bool false) := cell_blkJ kb1 rfl
        have vf2 : wr.frozen? ⟨W.heap.size + 1, 2, none⟩ = false := frz_new (j := 2) kb1
        have v3 : wr.cell? ⟨W.heap.size + 1, 3, none⟩ = some (.slice none 0 0) := cell_blkJ kb1 rfl
        have vf3 : wr.frozen? ⟨W.heap.size + 1, 3, none⟩ = false := frz_new (j := 3) kb1
        have hq5 : Q W (wr.setCell ⟨W.heap.size, 3, none⟩ (.slice A9 j c9)) := (HQ2.out.trans hcp.q).set (p := ⟨W.heap.size, 3, none⟩) (Nat.le_refl _) _
        have u0 : (wr.setCell ⟨W.heap.size, 3, none⟩ (.slice A9 j c9)).cell? ⟨W.heap.size + 1, 0, none⟩ = some (.int .i64 0) := (World.cell?_setCell_other _ _ _ _ (by simp)).trans v0
        have u1 : (wr.setCell ⟨W.heap.size, 3, none⟩ (.slice A9 j c9)).cell? ⟨W.heap.size + 1, 1, none⟩ = some (.int .i64 0) := (World.cell?_setCell_other _ _ _ _ (by simp)).trans v1
        have u2 : (wr.setCell ⟨W.heap.size, 3, none⟩ (.slice A9 j c9)).cell? ⟨W.heap.size + 1, 2, none⟩ = some (.bool false) := (World.cell?_setCell_other _ _ _ _ (by simp)).trans v2
        have u3 : (wr.setCell ⟨W.heap.size, 3, none⟩ (.slice A9 j c9)).cell? ⟨W.heap.size + 1, 3, none⟩ = some (.slice none 0 0) := (World.cell?_setCell_other _ _ _ _ (by simp)).trans v3
        have HS5 := hide (set4c (.int .i64 k) (.int .i64 n) (.bool f) (.slice A9 j c9) u0 u1 u2 u3 _ rfl)
        have HQS := hide (q_set4 (b := W.heap.size + 1) (.int .i64 k) (.int .i64 n) (.bool f) (.slice A9 j c9) hq5 (by omega))
        clear hcp r1 r2 r3 kb0 kb1 hq5 u0 u1 u2 u3
        go_wp2_with fail
        obtain ⟨s0, s1, s2, s3⟩ := HS5.out
        refine bodyPost_ret (v := .agg #[.int .i64 k, .int .i64 n, .bool f, .slice A9 j c9]) (by simp [results, Try.results42, go_sem, s0, s1, s2, s3]) rfl ?_
        refine ⟨.mk k n f A9 j c9 ls, rfl, RR3.out, RR1.out.frame' (P := fun b => w2.heap.size ≤ b ∧ b < wr.heap.size) (fun i hi _ => ?_) (by simp) RR2.out, RR2.out.mono fun b hb => ⟨by omega, by simpa using hb.2⟩, HQS.out⟩
        have hne : i ≠ W.heap.size ∧ i ≠ W.heap.size + 1 := by have := hi.1; omega
        rw [heap_setCell_other _ _ _ _ (by simp; omega), heap_setCell_other _ _ _ _ (by simp; omega), heap_setCell_other _ _ _ _ (by simp; omega), heap_setCell_other _ _ _ _ (by simp; omega), heap_setCell_other _ _ _ _ (by simp; omega)]
set_option maxRecDepth 100000 in
set_option maxHeartbeats 2000000 in
theorem Same05_any {w : World} {l : Lay} (h : LayR w l) : ∀ {m : Lay}, LayR w m → l.ske = m.ske → ∀ W, Q w W → Calls Try.prog 18 #[l.v, m.v] W (R1 W (.bool true)) := by
  induction h with
  | @mk k n f A len cap ps hk hn hsl hnil hcap hall ih =>
    intro m hm he W hqW
    cases hm with
    | @mk kb nb fb A2 lenb cap2 qs hkb hnb hslb hnilb hcapb hallb =>
      obtain ⟨rfl, rfl, rfl, hsk⟩ := ske_inj he
      have hlq : ps.length = qs.length := by have := congrArg List.length hsk; simpa using this
      obtain rfl : len = lenb := by have := hsl.len; have := hslb.len; omega
      unfold R1
      have HSL := hide hsl
      have HSLB := hide hslb
      have hlb : (len : Int) ≤ 140737488351232 := by omega
      have HIH : Hid (∀ (j : Nat) (p q : Lay), ps[j]? = some p → qs[j]? = some q → ∀ W, Q w W → Calls Try.prog 18 #[p.v, q.v] W (fun e w' => e = .returned (.bool true) ∧ Q W w')) := hide (fun j p q hp hq => by
        have h1 : (ps.map Lay.ske)[j]? = (qs.map Lay.ske)[j]? := by rw [hsk]
        rw [List.getElem?_map, List.getElem?_map, hp, hq] at h1
        injection h1 with h1
        exact ih p (List.mem_of_getElem? hp) (hallb q (List.mem_of_getElem? hq)) h1)
      show Calls _ _ #[.agg #[.int .i64 k, .int .i64 n, .bool f, .slice A len cap], .agg #[.int .i64 k, .int .i64 n, .bool f, .slice A2 len cap2]] W _
      obtain ⟨w2, hw2⟩ : ∃ w2, (W.alloc (.cells #[.int .i64 k, .int .i64 n, .bool f, .slice A len cap] 24)).alloc (.cells #[.int .i64 k, .int .i64 n, .bool f, .slice A2 len cap2] 24) = w2 := ⟨_, rfl⟩
      obtain ⟨hq2, hs2, hc2, hd2⟩ := box2 hw2
      have hb0 : W.heap.size < w2.heap.size := by omega
      have hb1 : W.heap.size + 1 < w2.heap.size := by omega
      have k0 : w2.cell? ⟨W.heap.size, 0, none⟩ = some (.int .i64 k) := hc2 0 _ rfl
      have k1 : w2.cell? ⟨W.heap.size, 1, none⟩ = some (.int .i64 n) := hc2 1 _ rfl
      have k2 : w2.cell? ⟨W.heap.size, 2, none⟩ = some (.bool f) := hc2 2 _ rfl
      have k3 : w2.cell? ⟨W.heap.size, 3, none⟩ = some (.slice A len cap) := hc2 3 _ rfl
      have t0 : w2.cell? ⟨W.heap.size + 1, 0, none⟩ = some (.int .i64 k) := hd2 0 _ rfl
      have t1 : w2.cell? ⟨W.heap.size + 1, 1, none⟩ = some (.int .i64 n) := hd2 1 _ rfl
      have t2 : w2.cell? ⟨W.heap.size + 1, 2, none⟩ = some (.bool f) := hd2 2 _ rfl
      have t3 : w2.cell? ⟨W.heap.size + 1, 3, none⟩ = some (.slice A2 len cap2) := hd2 3 _ rfl
      have KS : Hid (∀ X, Q w2 X → X.cell? ⟨W.heap.size, 3, none⟩ = some (.slice A len cap)) := hide fun X hX => (hX.facts.1 _ 3 hb0).trans k3
      have KT : Hid (∀ X, Q w2 X → X.cell? ⟨W.heap.size + 1, 3, none⟩ = some (.slice A2 len cap2)) := hide fun X hX => (hX.facts.1 _ 3 hb1).trans t3
      have dk : (k != k) = false := by simp
      have dn : (n != n) = false := by simp
      have df : (f != f) = false := by simp
      have dl : ((len : Int) != (len : Int)) = false := by simp
      have HW2 := hide hw2
      have HWQ := hide (hqW.trans hq2)
      have HQ2 := hide hq2
      clear hk hn hsl hnil hall ih he hkb hnb hslb hnilb hcapb hallb hsk hlq hqW hw2 hc2 hd2 hq2
      go_enter Try.func18, Try.ntmps18
      go_upto_region 1 with fail
      rw [HW2.out]
      go_wp2_with fail
      clear k0 k1 k2 k3 t0 t1 t2 t3
      go_loopw [5] (fun vi wr => ∃ j : Nat, j ≤ len ∧ vi = .int .i64 j ∧ Q w2 wr) (fun vi _ => len - (intOf vi).toNat)
      case atStart => exact ⟨0, by omega, by go_num, Q.refl _⟩
      case round =>
        obtain ⟨j, hj, rfl, hq⟩ := hrel
        have HQ := hide hq
        have k3 := KS.out wr hq
        by_cases hlt9 : j < len
        · have hd1 : decide ((j : Int) < (len : Int)) = true := by simp; omega
          have hd0 : decide (j < len) = true := by simp; omega
          have hlti : (j : Int) < (len : Int) := by omega
          obtain ⟨g, o, m', x', y', B, l', d', qs1, e, hb, hx, z0, z1, z2, z3⟩ := lay_at (HSL.out.up (HWQ.out.trans hq)) hlt9
          cases e
          obtain ⟨p, hpe⟩ : ∃ p, Lay.mk m' x' y' B l' d' qs1 = p := ⟨_, rfl⟩
          have hpv : p.v = .agg #[.int .i64 m', .int .i64 x', .bool y', .slice B l' d'] := by rw [← hpe]; rfl
          rw [hpe] at hx
          obtain ⟨g2, o2, m2, x2, y2, B2, l2, d2, qs2, e, hb2, hx2, v0, v1, v2, v3⟩ := lay_at (HSLB.out.up (HWQ.out.trans hq)) hlt9
          cases e
          obtain ⟨q, hqe⟩ : ∃ q, Lay.mk m2 x2 y2 B2 l2 d2 qs2 = q := ⟨_, rfl⟩
          have hqv : q.v = .agg #[.int .i64 m2, .int .i64 x2, .bool y2, .slice B2 l2 d2] := by rw [← hqe]; rfl
          rw [hqe] at hx2
          have HIP := hide (HIH.out j p q hx hx2)
          rw [hpv, hqv] at HIP
          have KP : Hid (∀ X, Q wr X → X.cell? ⟨g, o + j * 4, none⟩ = some (.int .i64 m') ∧ X.cell? ⟨g, o + j * 4 + 1, none⟩ = some (.int .i64 x') ∧ X.cell? ⟨g, o + j * 4 + 2, none⟩ = some (.bool y') ∧ X.cell? ⟨g, o + j * 4 + 3, none⟩ = some (.slice B l' d')) := hide fun X hX => ⟨(hX.facts.1 _ _ hb).trans z0, (hX.facts.1 _ _ hb).trans z1, (hX.facts.1 _ _ hb).trans z2, (hX.facts.1 _ _ hb).trans z3⟩
          have KP2 : Hid (∀ X, Q wr X → X.cell? ⟨g2, o2 + j * 4, none⟩ = some (.int .i64 m2) ∧ X.cell? ⟨g2, o2 + j * 4 + 1, none⟩ = some (.int .i64 x2) ∧ X.cell? ⟨g2, o2 + j * 4 + 2, none⟩ = some (.bool y2) ∧ X.cell? ⟨g2, o2 + j * 4 + 3, none⟩ = some (.slice B2 l2 d2)) := hide fun X hX => ⟨(hX.facts.1 _ _ hb2).trans v0, (hX.facts.1 _ _ hb2).trans v1, (hX.facts.1 _ _ hb2).trans v2, (hX.facts.1 _ _ hb2).trans v3⟩
          have HLT := hide hlt9
          clear hq hpe hpv hx hqe hqv hx2 z0 z1 z2 z3 v0 v1 v2 v3 hb hb2
          go_upto_region 6 with fail
          clear k3
          refine Ri.made (Ri.phi [Ri.isV (.pointer (some ⟨W.heap.size, 3, none⟩)), Ri.isV (.slice (some ⟨g, o, none⟩) len cap), Ri.isV (.int .i64 ((j : Nat) : Int)), Ri.isV (.pointer (some ⟨g, o + j * 4, none⟩)), Ri.isV (.agg #[.int .i64 m', .int .i64 x', .bool y', .slice B l' d']), Ri.isV (.pointer (some ⟨W.heap.size + 1, 3, none⟩)), Ri.isV (.slice (some ⟨g2, o2, none⟩) len cap2), Ri.isV (.int .i64 ((j : Nat) : Int)), Ri.isV (.pointer (some ⟨g2, o2 + j * 4, none⟩)), Ri.isV (.agg #[.int .i64 m2, .int .i64 x2, .bool y2, .slice B2 l2 d2]), Ri.isV (.bool true), Ri.isV (.bool false)]) (by kernel_rfl) (by kernel_rfl) (Ri.phi_mono ?_) ?_ ?_
          · exact ⟨Ri.mono_isV _, Ri.mono_isV _, Ri.mono_isV _, Ri.mono_isV _, Ri.mono_isV _, Ri.mono_isV _, Ri.mono_isV _, Ri.mono_isV _, Ri.mono_isV _, Ri.mono_isV _, Ri.mono_isV _, Ri.mono_isV _, trivial⟩
          · refine Ri.All.cons ?_ (Ri.All.cons ?_ (Ri.All.cons ?_ (Ri.All.cons ?_ (Ri.All.cons ?_ (Ri.All.cons ?_ (Ri.All.cons ?_ (Ri.All.cons ?_ (Ri.All.cons ?_ (Ri.All.cons ?_ (Ri.All.cons ?_ (Ri.All.cons ?_ (Ri.All.nil))))))))))))
            · refine ⟨rfl, fun f9 W9 hq hf Ac hA hB hO => ?_⟩
              have e1 := (hB 2 (by kernel_rfl)).trans (show _ = .pointer (some ⟨W.heap.size, 0, none⟩) by simp [Act.eval])
              exact Ri.wp_value _ (Ri.run_fld (f := _) rfl e1 Try.underlying24 rfl (sz := 0) (by kernel_rfl)) rfl
            · refine ⟨rfl, fun f9 W9 hq hf Ac hA hB hO => ?_⟩
              have e1 := (hA 41 0 (by kernel_rfl) (by simp)).trans (show f9 0 = _ from hf 0 (by kernel_rfl))
              exact Ri.wp_value _ (Ri.run_ld1 rfl e1 Try.underlying22 rfl ((KS.out W9 (HQ.out.trans ((Q.refl wr).drew.trans hq))))) rfl
            · refine ⟨rfl, fun f9 W9 hq hf Ac hA hB hO => ?_⟩
              have e1 := (hB 5 (by kernel_rfl)).trans (show _ = .int .i64 (j : Nat) by simp [Act.eval])
              exact Ri.wp_value _ (Ri.run_mv rfl e1) rfl
            · refine ⟨rfl, fun f9 W9 hq hf Ac hA hB hO => ?_⟩
              have e1 := (hA 42 1 (by kernel_rfl) (by simp)).trans (show f9 1 = _ from hf 1 (by kernel_rfl))
              have e2 := (hA 43 2 (by kernel_rfl) (by simp)).trans (show f9 2 = _ from hf 2 (by kernel_rfl))
              exact Ri.wp_value _ (Ri.run_idx rfl e1 e2 Try.underlying22 (sz := 4) (by kernel_rfl) HLT.out) rfl
            · refine ⟨rfl, fun f9 W9 hq hf Ac hA hB hO => ?_⟩
              have e1 := (hA 44 3 (by kernel_rfl) (by simp)).trans (show f9 3 = _ from hf 3 (by kernel_rfl))
              obtain ⟨b0, b1, b2, b3⟩ := KP.out W9 ((Q.refl wr).drew.trans hq)
              exact Ri.wp_value _ (Ri.run_ldagg rfl e1 (c4G b0 b1 b2 b3) Try.underlying24 rfl (by kernel_rfl)) rfl
            · refine ⟨rfl, fun f9 W9 hq hf Ac hA hB hO => ?_⟩
              have e1 := (hB 3 (by kernel_rfl)).trans (show _ = .pointer (some ⟨W.heap.size + 1, 0, none⟩) by simp [Act.eval])
              exact Ri.wp_value _ (Ri.run_fld (f := _) rfl e1 Try.underlying24 rfl (sz := 0) (by kernel_rfl)) rfl
            · refine ⟨rfl, fun f9 W9 hq hf Ac hA hB hO => ?_⟩
              have e1 := (hA 46 5 (by kernel_rfl) (by simp)).trans (show f9 5 = _ from hf 5 (by kernel_rfl))
              exact Ri.wp_value _ (Ri.run_ld1 rfl e1 Try.underlying22 rfl ((KT.out W9 (HQ.out.trans ((Q.refl wr).drew.trans hq))))) rfl
            · refine ⟨rfl, fun f9 W9 hq hf Ac hA hB hO => ?_⟩
              have e1 := (hB 5 (by kernel_rfl)).trans (show _ = .int .i64 (j : Nat) by simp [Act.eval])
              exact Ri.wp_value _ (Ri.run_mv rfl e1) rfl
            · refine ⟨rfl, fun f9 W9 hq hf Ac hA hB hO => ?_⟩
              have e1 := (hA 47 6 (by kernel_rfl) (by simp)).trans (show f9 6 = _ from hf 6 (by kernel_rfl))
              have e2 := (hA 48 7 (by kernel_rfl) (by simp)).trans (show f9 7 = _ from hf 7 (by kernel_rfl))
              exact Ri.wp_value _ (Ri.run_idx rfl e1 e2 Try.underlying22 (sz := 4) (by kernel_rfl) HLT.out) rfl
            · refine ⟨rfl, fun f9 W9 hq hf Ac hA hB hO => ?_⟩
              have e1 := (hA 49 8 (by kernel_rfl) (by simp)).trans (show f9 8 = _ from hf 8 (by kernel_rfl))
              obtain ⟨b0, b1, b2, b3⟩ := KP2.out W9 ((Q.refl wr).drew.trans hq)
              exact Ri.wp_value _ (Ri.run_ldagg rfl e1 (c4G b0 b1 b2 b3) Try.underlying24 rfl (by kernel_rfl)) rfl
            · refine ⟨rfl, fun f9 W9 hq hf Ac hA hB hO => ?_⟩
              have e1 := (hA 45 4 (by kernel_rfl) (by simp)).trans (show f9 4 = _ from hf 4 (by kernel_rfl))
              have e2 := (hA 50 9 (by kernel_rfl) (by simp)).trans (show f9 9 = _ from hf 9 (by kernel_rfl))
              refine Ri.wp_call #[.agg #[.int .i64 m', .int .i64 x', .bool y', .slice B l' d'], .agg #[.int .i64 m2, .int .i64 x2, .bool y2, .slice B2 l2 d2]] rfl (by simp [e1, e2]) Try.func18 (by kernel_rfl) (by kernel_rfl) ((HIP.out W9 (HWQ.out.trans (HQ.out.trans ((Q.refl wr).drew.trans hq)))).mono ?_)
              rintro e w9 ⟨rfl, h1⟩
              exact ⟨_, rfl, h1, rfl⟩
            · refine ⟨rfl, fun f9 W9 hq hf Ac hA hB hO => ?_⟩
              have e1 := (hA 51 10 (by kernel_rfl) (by simp)).trans (show f9 10 = _ from hf 10 (by kernel_rfl))
              exact Ri.wp_value _ (Ri.run_not rfl e1) rfl
          · intro f9 w8 hq8 hf
            have h11 := hf 11 (by simp)
            simp only [Ri.phi, List.getD_cons_zero, List.getD_cons_succ, Ri.isV] at h11
            simp only [Ri.acts, Act.put, List.setIfInBounds_toArray, List.set_cons_zero, List.set_cons_succ, Nat.zero_add, Nat.reduceAdd]
            rw [h11]
            have HQ8 := hide (HQ.out.trans hq8)
            clear hf h11 hq8
            go_wp2_with fail
            go_roundw
            case rel => exact ⟨j + 1, by omega, by go_num, HQ8.out⟩
            case measure => simp [intOf] <;> omega
        · have hd1 : decide ((j : Int) < (len : Int)) = false := by simp; omega
          have hd0 : decide (j < len) = false := by simp; omega
          obtain rfl : j = len := by omega
          clear hq
          go_wp2_with fail
          go_ret
          exact ⟨rfl, HQ2.out.trans HQ.out⟩
end Go.Proofs.Ytbgbalfhbficaaa

namespace Go.Proofs.Ytbgbalfhbficaaa
open Go.ChangeShapes Go.WideShapes Go.ChangeAt Go.RowKit
set_option linter.unusedVariables false
set_option linter.unusedSimpArgs false
theorem rdTgt : Rdr Try.prog 26 2 (fun p : Int × Bool => encI .i64 p.1 ++ encB p.2) (fun w p => (Lit.int .i64 p.1).wf = true ∧ True) :=
  Rdr.struct Try.underlying26 (by kernel_rfl) (by
    refine RdrF.cons (i := 0) (off := 0) (k := 1) (k' := 1) (enc := encI .i64) (enc' := encB) (ok := fun (_ : World) (a : Int) => (Lit.int .i64 a).wf = true) (ok' := fun _ _ => True) (f := _) (hf := rfl) ?_ ?_ ?_
    · rfl
    · exact Rdr.int Try.underlying3 (by kernel_rfl)
    refine RdrF.one (f := _) (hf := rfl) ?_ ?_
    · rfl
    exact Rdr.bool Try.underlying4 (by kernel_rfl))
theorem rdTwo (Z : Nat) : RdrC (Z + 1) Try.prog 28 6 (fun p : Lay × (Int × Bool) => encL p.1 ++ (encI .i64 p.2.1 ++ encB p.2.2)) (fun w p => LayR w p.1 ∧ ((Lit.int .i64 p.2.1).wf = true ∧ True)) (fun p => (p.1.count + 0) + 1) :=
  RdrC.struct Try.underlying28 (by kernel_rfl) (by
    refine RdrFC.cons (i := 0) (off := 0) (k := 4) (k' := 2) (enc := encL) (enc' := fun p : Int × Bool => encI .i64 p.1 ++ encB p.2) (ok := LayR) (ok' := fun (_ : World) (p : Int × Bool) => (Lit.int .i64 p.1).wf = true ∧ True) (sz := Lay.count) (sz' := fun _ => 0) (f := _) (hf := rfl) ?_ ?_ ?_
    · rfl
    · exact lay_all Z
    refine RdrFC.one (f := _) (hf := rfl) ?_ ?_
    · rfl
    exact rdTgt.c Z)
/-- an argument, opened, with its count -/
theorem RdrC.arg {P : Program} {t : TypeId} {k : Nat} {α : Type} {enc : α → List Value} {ok : World → α → Prop} {sz : α → Nat} (R : ∀ Z, RdrC (Z + 1) P t k enc ok sz) {H : Type} {en : TypeId × Value → H} {w : World} {v : Value} {d : DataW H} {ps : List MemPlace}
    (hd : DataW.Trod en P w 0 (fun _ => true) true t v d ps) {ts : List TypeId} {ds : List (DataW H)} (hs : (DataW.weightsEach P ts ds).all (· ≤ reachBytes) = true) {j : Nat} (htj : ts[j]? = some t) (hdj : ds[j]? = some d) :
    ∃ a, v.cells.toList = enc a ∧ ok w a ∧ sz a ≤ Rows.uptoBulk d := by
  obtain ⟨fuel, hf⟩ := hd
  exact (R (SizeOf.sizeOf d)).read (x := (d, ps)) (Nat.lt_succ_self _) hf (fun m hm => of_decide_eq_true (List.all_eq_true.1 hs m (DataW.weights_mem_each htj hdj m hm)))
end Go.Proofs.Ytbgbalfhbficaaa

namespace Go.Proofs.Ytbgbalfhbficaaa
open Go.RowKit
set_option linter.unusedVariables false
set_option linter.unusedSimpArgs false
theorem cel_enc (c : Cel) : ∃ n x y A len cap, c.v = .agg #[.int .i64 n, .bool x, .bool y, .slice A len cap] ∧ encC c = [.int .i64 n, .bool x, .bool y, .slice A len cap] := by cases c; exact ⟨_, _, _, _, _, _, rfl, rfl⟩
set_option maxRecDepth 100000 in
set_option maxHeartbeats 2000000 in
theorem Long_any {w : World} {l : Lay} (h : LayR w l) (hcnt : l.count ≤ 1048576) {c : Cel} (hc : CelR w c) (B : Option Addr) (n9 c9 : Nat) : ∀ W, Q w W → Calls Try.prog 9 #[l.v, c.v, .slice B n9 c9] W (fun e w' => ∃ r, e = .returned (.bool r) ∧ (r = false → l.count ≤ 200 ∧ n9 ≤ 6000) ∧ Q W w') := by
  intro W hqW
  obtain ⟨k, n, f, A, len, cap, hlv, hle⟩ := enc_v l
  obtain ⟨cn, cx, cy, cA, cl, cc, hcv, hce⟩ := cel_enc c
  rw [hlv, hcv]
  obtain ⟨w2, hw2⟩ : ∃ w2, (W.alloc (.cells #[.int .i64 k, .int .i64 n, .bool f, .slice A len cap] 24)).alloc (.cells #[.int .i64 cn, .bool cx, .bool cy, .slice cA cl cc] 31) = w2 := ⟨_, rfl⟩
  obtain ⟨hq2, hs2, hd, he⟩ := box2 hw2
  have h0 : W.heap.size < w2.heap.size := by omega
  have h1 : W.heap.size + 1 < w2.heap.size := by omega
  have k0 := hd 0 _ rfl
  have k1 := hd 1 _ rfl
  have k2 := hd 2 _ rfl
  have k3 := hd 3 _ rfl
  have KC : Hid (∀ X, Q w2 X → X.cell? ⟨W.heap.size + 1, 0, none⟩ = some (.int .i64 cn) ∧ X.cell? ⟨W.heap.size + 1, 1, none⟩ = some (.bool cx) ∧ X.cell? ⟨W.heap.size + 1, 2, none⟩ = some (.bool cy) ∧ X.cell? ⟨W.heap.size + 1, 3, none⟩ = some (.slice cA cl cc)) := hide fun X hX => ⟨(hX.facts.1 _ 0 h1).trans (he 0 _ rfl), (hX.facts.1 _ 1 h1).trans (he 1 _ rfl), (hX.facts.1 _ 2 h1).trans (he 2 _ rfl), (hX.facts.1 _ 3 h1).trans (he 3 _ rfl)⟩
  have HLY := hide (Layouts_any h hcnt w2 (hqW.trans hq2))
  have HCC := hide (fun W' (hW : Q w W') => Count_any hc W' hW)
  rw [hlv] at HLY
  rw [hcv] at HCC
  have HW2 := hide hw2
  have HQ2 := hide hq2
  have HWQ := hide (hqW.trans hq2)
  obtain ⟨m, hm⟩ : ∃ m, l.count = m := ⟨_, rfl⟩
  rw [hm] at HLY ⊢
  clear h hc hlv hcv hle hce hw2 hd he hq2 hqW hm hcnt
  go_enter Try.func9, Try.ntmps9
  go_upto_region 1 with fail
  rw [HW2.out]
  go_wp2_with fail
  refine HLY.out.mono ?_
  rintro e w3 ⟨g, c3, rfl, -, hq3⟩
  have HQ3 := hide hq3
  clear hq3 k0 k1 k2 k3
  by_cases h200 : 200 < m
  · have d1 : decide ((200 : Int) < (m : Int)) = true := by simp; omega
    clear h200
    go_wp2_with fail
    go_ret
    exact ⟨true, rfl, (fun h => nomatch h), HQ2.out.trans HQ3.out⟩
  · have d1 : decide ((200 : Int) < (m : Int)) = false := by simp; omega
    have H200 := hide h200
    clear h200
    obtain ⟨t0, t1, t2, t3⟩ := KC.out w3 HQ3.out
    go_wp2_with fail
    refine (HCC.out w3 (HWQ.out.trans HQ3.out)).mono ?_
    rintro e w4 ⟨⟨n4, rfl⟩, hq4⟩
    have HQ4 := hide (HQ3.out.trans hq4)
    clear hq4 t0 t1 t2 t3
    cases hn4 : decide (6000 < n4) with
    | true =>
      go_wp2_with fail
      go_ret
      exact ⟨true, rfl, (fun h => nomatch h), HQ2.out.trans HQ4.out⟩
    | false =>
      by_cases h6 : 6000 < n9
      · have d6 : decide ((6000 : Int) < (n9 : Int)) = true := by simp; omega
        clear h6
        go_wp2_with fail
        go_ret
        exact ⟨true, rfl, (fun h => nomatch h), HQ2.out.trans HQ4.out⟩
      · have d6 : decide ((6000 : Int) < (n9 : Int)) = false := by simp; omega
        have H6 := hide h6
        clear h6
        go_wp2_with fail
        go_ret
        exact ⟨false, rfl, fun _ => ⟨by have := H200.out; omega, by have := H6.out; omega⟩, HQ2.out.trans HQ4.out⟩
end Go.Proofs.Ytbgbalfhbficaaa

namespace Go.Proofs.Ytbgbalfhbficaaa
open Go.RowKit
set_option linter.unusedVariables false
set_option linter.unusedSimpArgs false
/-- what Find answers -/
def fdR (wd : Int) (l : Lay) (xs : List Int) : Int × Lay × Int := if eL wd l = 0 then findL wd l 0 xs else (0, noL, eL wd l)
theorem trip {x : Int × Lay × Int} (h : x.2.2 = 0) : x = (x.1, x.2.1, 0) := by
  obtain ⟨a, b, c⟩ := x
  cases h
  rfl
theorem noL_R (w : World) : LayR w noL := .mk rfl rfl (Sl.nil w) (fun _ => ⟨rfl, rfl⟩) (by decide) (fun p h => by cases h)
theorem findL_R {w : World} {wd : Int} {l : Lay} (h : LayR w l) (ho : Okw wd l) (xs : List Int) : LayR w (findL wd l 0 xs).2.1 ∧ (findL wd l 0 xs).2.1.count ≤ l.count := by
  by_cases he : (findL wd l 0 xs).2.2 = 0
  · have h1 := find_al xs l 0 h ho (Int.le_refl 0) (Int.zero_emod _) _ _ (trip he)
    exact ⟨h1.1, h1.2.2.1⟩
  · have : ∀ (xs : List Int) (l : Lay) (a : Int), (findL wd l a xs).2.2 ≠ 0 → (findL wd l a xs).2.1 = noL := by
      intro xs
      induction xs with
      | nil => intro l a h; exact absurd rfl h
      | cons x r ih =>
        intro l a h
        unfold findL at h ⊢
        split
        · rename_i hs
          rw [if_pos hs] at h
          exact ih _ _ h
        · rfl
    rw [this xs l 0 he]
    refine ⟨noL_R w, ?_⟩
    have h1 := count_pos l
    have h2 : noL.count = 1 := by unfold noL; rw [count_mk]; rfl
    omega
theorem fdR_R {w : World} {l : Lay} (h : LayR w l) (wd : Int) (xs : List Int) : LayR w (fdR wd l xs).2.1 := by
  unfold fdR
  by_cases he : eL wd l = 0
  · rw [if_pos he]; exact (findL_R h (eL_zero.1 he) xs).1
  · rw [if_neg he]; exact noL_R w
/-- a law of what is found: its alignment divides the place -/
theorem fdR_al {w : World} {wd : Int} {l : Lay} (h : LayR w l) {xs : List Int} (he : (fdR wd l xs).2.2 = 0) : isA (((fdR wd l xs).2.1).room wd).2 ∧ Okw wd (fdR wd l xs).2.1 ∧ 0 ≤ (fdR wd l xs).1 ∧ (fdR wd l xs).1 % (((fdR wd l xs).2.1).room wd).2 = 0 ∧ (fdR wd l xs).1 ≤ 4096 * xs.length ∧ (fdR wd l xs).2.1.count ≤ l.count := by
  unfold fdR at he ⊢
  by_cases hz : eL wd l = 0
  · rw [if_pos hz] at he ⊢
    have ho := eL_zero.1 hz
    obtain ⟨x1, x2, x3, x4, x5, x6⟩ := find_al xs l 0 h ho (Int.le_refl 0) (Int.zero_emod _) _ _ (trip he)
    exact ⟨okw_isA x1 x2, x2, x4, x6, by omega, x3⟩
  · rw [if_neg hz] at he
    exact absurd he hz
set_option maxRecDepth 100000 in
set_option maxHeartbeats 2000000 in
theorem rFind_any {w : World} {l : Lay} (h : LayR w l) (hc : l.count ≤ 1048576) (wd : Int) (b : Bool) {A6 : Option Addr} {n6 c6 : Nat} {xs : List Int} (hp : Sl 1 (encI .i64) w A6 n6 c6 xs) (h50 : n6 ≤ 50) : ∀ W, Q w W → Calls Try.prog 23 #[l.v, tgW wd b, .slice A6 n6 c6] W (R1 W (.tuple #[.int .i64 (fdR wd l xs).1, (fdR wd l xs).2.1.v, .int .i64 (fdR wd l xs).2.2])) := by
  intro W hqW
  unfold R1
  obtain ⟨k, n, f, A, len, cap, hlv⟩ : ∃ k n f A len cap, l.v = .agg #[.int .i64 k, .int .i64 n, .bool f, .slice A len cap] := by cases l; exact ⟨_, _, _, _, _, _, rfl⟩
  have HLV := hide hlv
  rw [hlv]
  clear hlv
  obtain ⟨w2, hw2⟩ : ∃ w2, ((W.alloc (.cells #[.int .i64 k, .int .i64 n, .bool f, .slice A len cap] 24)).alloc (.cells #[.int .i64 wd, .bool b] 26)).alloc (.cells #[.int .i64 0, .int .i64 0, .bool false, .slice none 0 0] 24) = w2 := ⟨_, rfl⟩
  obtain ⟨hq2, hs2, hc2, hd2, he2⟩ := box3 hw2
  have hb0 : W.heap.size < w2.heap.size := by omega
  have hb1 : W.heap.size + 1 < w2.heap.size := by omega
  have hb2 : W.heap.size + 2 < w2.heap.size := by omega
  have KA : Hid (∀ X, Q w2 X → X.cell? ⟨W.heap.size, 0, none⟩ = some (.int .i64 k) ∧ X.cell? ⟨W.heap.size, 1, none⟩ = some (.int .i64 n) ∧ X.cell? ⟨W.heap.size, 2, none⟩ = some (.bool f) ∧ X.cell? ⟨W.heap.size, 3, none⟩ = some (.slice A len cap) ∧ X.cell? ⟨W.heap.size + 1, 0, none⟩ = some (.int .i64 wd) ∧ X.cell? ⟨W.heap.size + 1, 1, none⟩ = some (.bool b)) := hide fun X hX => ⟨(hX.facts.1 _ 0 hb0).trans (hc2 0 _ rfl), (hX.facts.1 _ 1 hb0).trans (hc2 1 _ rfl), (hX.facts.1 _ 2 hb0).trans (hc2 2 _ rfl), (hX.facts.1 _ 3 hb0).trans (hc2 3 _ rfl), (hX.facts.1 _ 0 hb1).trans (hd2 0 _ rfl), (hX.facts.1 _ 1 hb1).trans (hd2 1 _ rfl)⟩
  have Z0 := hide (he2 0 _ rfl)
  have Z1 := hide (he2 1 _ rfl)
  have Z2 := hide (he2 2 _ rfl)
  have Z3 := hide (he2 3 _ rfl)
  have kb : w2.heap[W.heap.size + 2]? = some (.cells #[.int .i64 0, .int .i64 0, .bool false, .slice none 0 0] 24 (0, 0)) := by
    have h9 := heap_alloc_new ((W.alloc (.cells #[.int .i64 k, .int .i64 n, .bool f, .slice A len cap] 24)).alloc (.cells #[.int .i64 wd, .bool b] 26)) (.cells #[.int .i64 0, .int .i64 0, .bool false, .slice none 0 0] 24)
    rw [hw2] at h9
    simpa using h9
  have Y0 := hide (frz_new (j := 0) kb)
  have Y1 := hide (frz_new (j := 1) kb)
  have Y2 := hide (frz_new (j := 2) kb)
  have Y3 := hide (frz_new (j := 3) kb)
  have KB := hide kb
  clear kb
  have HW2 := hide hw2
  have HWQ := hide (hqW.trans hq2)
  have HQ2 := hide hq2
  have H := hide h
  clear h hw2 hq2 hqW hc2 hd2 he2
  have HSZ := hide (sized06_any H.out hc wd b)
  obtain ⟨ee, hee⟩ : ∃ ee, eL wd l = ee := ⟨_, rfl⟩
  rw [HLV.out, hee] at HSZ
  unfold R1 at HSZ
  have HEE := hide hee
  have HP := hide hp
  clear hee hp
  have Q22 := hide (Q.refl w2)
  obtain ⟨k0, k1, k2, k3, t0, t1⟩ := KA.out w2 Q22.out
  go_enter Try.func23, Try.ntmps23
  go_upto_region 1 with fail
  rw [HW2.out]
  go_wp2_with fail
  refine (HSZ.out w2 HWQ.out).mono ?_
  rintro e w3 ⟨rfl, hq3⟩
  have Q23 := hide hq3
  clear hq3 k0 k1 k2 k3 t0 t1
  obtain ⟨k0, k1, k2, k3, t0, t1⟩ := KA.out w3 Q23.out
  by_cases hz : ee = 0
  · have dz : (ee != 0) = false := by simp [hz]
    have ho := eL_zero.1 (HEE.out.trans hz)
    have HF := hide (find06_any H.out hc wd b ho HP.out h50)
    have RES : Hid (fdR wd l xs = findL wd l 0 xs) := hide (by unfold fdR; rw [if_pos (HEE.out.trans hz)])
    obtain ⟨k9, n9, f9, A9, l9, d9, hv9, he9⟩ := enc_v (findL wd l 0 xs).2.1
    obtain ⟨a9, ha9⟩ : ∃ a, (findL wd l 0 xs).1 = a := ⟨_, rfl⟩
    obtain ⟨e9, hx9⟩ : ∃ a, (findL wd l 0 xs).2.2 = a := ⟨_, rfl⟩
    rw [HLV.out, hv9, ha9, hx9] at HF
    unfold R1 at HF
    have HV9 := hide hv9
    have HA9 := hide ha9
    have HX9 := hide hx9
    clear hz ho hv9 he9 ha9 hx9
    go_wp2_with fail
    refine (HF.out w3 (HWQ.out.trans Q23.out)).mono ?_
    rintro e w4 ⟨rfl, hq4⟩
    have Q24 := hide (Q23.out.trans hq4)
    clear hq4 k0 k1 k2 k3 t0 t1
    have z0 := (Q24.out.facts.1 _ 0 hb2).trans Z0.out
    have z1 := (Q24.out.facts.1 _ 1 hb2).trans Z1.out
    have z2 := (Q24.out.facts.1 _ 2 hb2).trans Z2.out
    have z3 := (Q24.out.facts.1 _ 3 hb2).trans Z3.out
    have y0 := (Q24.out.facts.2.1 _ 0 hb2).trans Y0.out
    have y1 := (Q24.out.facts.2.1 _ 1 hb2).trans Y1.out
    have y2 := (Q24.out.facts.2.1 _ 2 hb2).trans Y2.out
    have y3 := (Q24.out.facts.2.1 _ 3 hb2).trans Y3.out
    have HS5 := hide (set4c (.int .i64 k9) (.int .i64 n9) (.bool f9) (.slice A9 l9 d9) z0 z1 z2 z3 _ rfl)
    have HQS := hide (q_set4 (b := W.heap.size + 2) (.int .i64 k9) (.int .i64 n9) (.bool f9) (.slice A9 l9 d9) (HQ2.out.trans Q24.out) (by omega))
    go_wp2_with fail
    obtain ⟨s0, s1, s2, s3⟩ := HS5.out
    refine bodyPost_ret (v := .tuple #[.int .i64 a9, .agg #[.int .i64 k9, .int .i64 n9, .bool f9, .slice A9 l9 d9], .int .i64 e9]) (by simp [results, Try.results23, go_sem, s0, s1, s2, s3]) rfl ?_
    exact ⟨by rw [RES.out, HV9.out, HA9.out, HX9.out], HQS.out⟩
  · have dz : (ee != 0) = true := by simp [hz]
    have RES : Hid (fdR wd l xs = (0, noL, ee)) := hide (by unfold fdR; rw [if_neg (by rw [HEE.out]; exact hz), HEE.out])
    clear hz
    have z0 := (Q23.out.facts.1 _ 0 hb2).trans Z0.out
    have z1 := (Q23.out.facts.1 _ 1 hb2).trans Z1.out
    have z2 := (Q23.out.facts.1 _ 2 hb2).trans Z2.out
    have z3 := (Q23.out.facts.1 _ 3 hb2).trans Z3.out
    have y0 := (Q23.out.facts.2.1 _ 0 hb2).trans Y0.out
    have y1 := (Q23.out.facts.2.1 _ 1 hb2).trans Y1.out
    have y2 := (Q23.out.facts.2.1 _ 2 hb2).trans Y2.out
    have y3 := (Q23.out.facts.2.1 _ 3 hb2).trans Y3.out
    have HS5 := hide (set4c (.int .i64 0) (.int .i64 0) (.bool false) (.slice none 0 0) z0 z1 z2 z3 _ rfl)
    have HQS := hide (q_set4 (b := W.heap.size + 2) (.int .i64 0) (.int .i64 0) (.bool false) (.slice none 0 0) (HQ2.out.trans Q23.out) (by omega))
    go_wp2_with fail
    obtain ⟨s0, s1, s2, s3⟩ := HS5.out
    refine bodyPost_ret (v := .tuple #[.int .i64 0, .agg #[.int .i64 0, .int .i64 0, .bool false, .slice none 0 0], .int .i64 ee]) (by simp [results, Try.results23, go_sem, s0, s1, s2, s3]) rfl ?_
    exact ⟨by rw [RES.out] <;> rfl, HQS.out⟩
set_option maxRecDepth 100000 in
set_option maxHeartbeats 2000000 in
theorem pFind_any {w : World} {l : Lay} (h : LayR w l) (hc : l.count ≤ 1048576) (wd : Int) (b : Bool) {A6 : Option Addr} {n6 c6 : Nat} {xs : List Int} (hp : Sl 1 (encI .i64) w A6 n6 c6 xs) (h50 : n6 ≤ 50) : ∀ W, Q w W → Calls Try.prog 16 #[l.v, tgW wd b, .slice A6 n6 c6] W (fun e w' => ∃ l', e = .returned (.tuple #[.int .i64 (fdR wd l xs).1, Lay.v l', .int .i64 (fdR wd l xs).2.2]) ∧ l'.ske = (fdR wd l xs).2.1.ske ∧ LayR w' l' ∧ Q W w') := by
  intro W hqW
  obtain ⟨k, n, f, A, len, cap, hlv⟩ : ∃ k n f A len cap, l.v = .agg #[.int .i64 k, .int .i64 n, .bool f, .slice A len cap] := by cases l; exact ⟨_, _, _, _, _, _, rfl⟩
  have HLV := hide hlv
  rw [hlv]
  clear hlv
  obtain ⟨w2, hw2⟩ : ∃ w2, ((W.alloc (.cells #[.int .i64 k, .int .i64 n, .bool f, .slice A len cap] 24)).alloc (.cells #[.int .i64 wd, .bool b] 26)).alloc (.cells #[.int .i64 0, .int .i64 0, .bool false, .slice none 0 0] 24) = w2 := ⟨_, rfl⟩
  obtain ⟨hq2, hs2, hc2, hd2, he2⟩ := box3 hw2
  have hb0 : W.heap.size < w2.heap.size := by omega
  have hb1 : W.heap.size + 1 < w2.heap.size := by omega
  have hb2 : W.heap.size + 2 < w2.heap.size := by omega
  have KA : Hid (∀ X, Q w2 X → X.cell? ⟨W.heap.size, 0, none⟩ = some (.int .i64 k) ∧ X.cell? ⟨W.heap.size, 1, none⟩ = some (.int .i64 n) ∧ X.cell? ⟨W.heap.size, 2, none⟩ = some (.bool f) ∧ X.cell? ⟨W.heap.size, 3, none⟩ = some (.slice A len cap) ∧ X.cell? ⟨W.heap.size + 1, 0, none⟩ = some (.int .i64 wd) ∧ X.cell? ⟨W.heap.size + 1, 1, none⟩ = some (.bool b)) := hide fun X hX => ⟨(hX.facts.1 _ 0 hb0).trans (hc2 0 _ rfl), (hX.facts.1 _ 1 hb0).trans (hc2 1 _ rfl), (hX.facts.1 _ 2 hb0).trans (hc2 2 _ rfl), (hX.facts.1 _ 3 hb0).trans (hc2 3 _ rfl), (hX.facts.1 _ 0 hb1).trans (hd2 0 _ rfl), (hX.facts.1 _ 1 hb1).trans (hd2 1 _ rfl)⟩
  have Z0 := hide (he2 0 _ rfl)
  have Z1 := hide (he2 1 _ rfl)
  have Z2 := hide (he2 2 _ rfl)
  have Z3 := hide (he2 3 _ rfl)
  have kb : w2.heap[W.heap.size + 2]? = some (.cells #[.int .i64 0, .int .i64 0, .bool false, .slice none 0 0] 24 (0, 0)) := by
    have h9 := heap_alloc_new ((W.alloc (.cells #[.int .i64 k, .int .i64 n, .bool f, .slice A len cap] 24)).alloc (.cells #[.int .i64 wd, .bool b] 26)) (.cells #[.int .i64 0, .int .i64 0, .bool false, .slice none 0 0] 24)
    rw [hw2] at h9
    simpa using h9
  have Y0 := hide (frz_new (j := 0) kb)
  have Y1 := hide (frz_new (j := 1) kb)
  have Y2 := hide (frz_new (j := 2) kb)
  have Y3 := hide (frz_new (j := 3) kb)
  have KB := hide kb
  clear kb
  have HW2 := hide hw2
  have HWQ := hide (hqW.trans hq2)
  have HQ2 := hide hq2
  have H := hide h
  clear h hw2 hq2 hqW hc2 hd2 he2
  have HSZ := hide (open_any H.out hc wd b)
  obtain ⟨ee, hee⟩ : ∃ ee, eL wd l = ee := ⟨_, rfl⟩
  obtain ⟨sv, hsv⟩ : ∃ sv, szL wd l = sv := ⟨_, rfl⟩
  obtain ⟨cw, hcw⟩ : ∃ cw, cdW wd l = cw := ⟨_, rfl⟩
  obtain ⟨cb, hcb⟩ : ∃ cb, cdB b l = cb := ⟨_, rfl⟩
  rw [HLV.out, hee, hsv, hcw, hcb] at HSZ
  unfold R1 at HSZ
  have HEE := hide hee
  have HP := hide hp
  have HCW := hide hcw
  have HCB := hide hcb
  clear hee hp hsv hcw hcb
  have Q22 := hide (Q.refl w2)
  obtain ⟨k0, k1, k2, k3, t0, t1⟩ := KA.out w2 Q22.out
  go_enter Try.func16, Try.ntmps16
  go_upto_region 1 with fail
  rw [HW2.out]
  go_wp2_with fail
  refine (HSZ.out w2 HWQ.out).mono ?_
  rintro e w3 ⟨rfl, hq3⟩
  have Q23 := hide hq3
  clear hq3 k0 k1 k2 k3 t0 t1
  obtain ⟨w4, hw4⟩ : ∃ w4, w3.alloc (.cells #[.int .i64 cw, .bool cb] 60) = w4 := ⟨_, rfl⟩
  obtain ⟨hq4, hs4, hc4⟩ := box1 hw4
  have r0 := hc4 0 _ rfl
  have r1 := hc4 1 _ rfl
  have HW4 := hide hw4
  have Q24 := hide (Q23.out.trans hq4)
  clear hw4 hc4 hq4
  obtain ⟨k0, k1, k2, k3, t0, t1⟩ := KA.out w4 Q24.out
  go_upto_region 2 with fail
  rw [HW4.out]
  by_cases hz : ee = 0
  · have dz : (ee != 0) = false := by simp [hz]
    have ho := eL_zero.1 (HEE.out.trans hz)
    obtain ⟨x1, x2⟩ := cd_ok (wd := wd) (b := b) ho.valid
    rw [HCW.out] at x1
    rw [HCB.out] at x2
    subst x1 x2
    have HF := hide (pfind_any H.out hc cw cb ho HP.out h50)
    have RES : Hid (fdR cw l xs = findL cw l 0 xs) := hide (by unfold fdR; rw [if_pos (HEE.out.trans hz)])
    have HCP := hide (fun W' hW' => Copy_any (findL_R H.out ho xs).1 (Nat.le_trans (findL_R H.out ho xs).2 hc) W' hW')
    obtain ⟨k9, n9, f9, A9, l9, d9, hv9, he9⟩ := enc_v (findL cw l 0 xs).2.1
    obtain ⟨a9, ha9⟩ : ∃ a, (findL cw l 0 xs).1 = a := ⟨_, rfl⟩
    obtain ⟨e9, hx9⟩ : ∃ a, (findL cw l 0 xs).2.2 = a := ⟨_, rfl⟩
    rw [HLV.out, hv9, ha9, hx9] at HF
    rw [hv9] at HCP
    unfold R1 at HF
    have HA9 := hide ha9
    have HX9 := hide hx9
    clear hz ho hv9 he9 ha9 hx9
    go_wp2_with fail
    refine (HF.out w4 (HWQ.out.trans Q24.out)).mono ?_
    rintro e w5 ⟨rfl, hq5⟩
    have Q25 := hide (Q24.out.trans hq5)
    clear hq5 k0 k1 k2 k3 t0 t1 r0 r1
    obtain ⟨w6, hw6⟩ : ∃ w6, w5.alloc (.cells #[.int .i64 k9, .int .i64 n9, .bool f9, .slice A9 l9 d9] 24) = w6 := ⟨_, rfl⟩
    obtain ⟨hq6, hs6, hc6⟩ := box1 hw6
    have c0 := hc6 0 _ rfl
    have c1 := hc6 1 _ rfl
    have c2 := hc6 2 _ rfl
    have c3 := hc6 3 _ rfl
    have HW6 := hide hw6
    have Q26 := hide (Q25.out.trans hq6)
    clear hw6 hc6 hq6
    go_upto_region 5 with fail
    rw [HW6.out]
    go_wp2_with fail
    refine (HCP.out w6 (HWQ.out.trans Q26.out)).mono ?_
    rintro e w7 ⟨l7, rfl, hk7, hr7, hb7, hq7⟩
    have HB7 := hide hb7
    have hs26 := Q26.out.size
    have HS26 := hide hs26
    obtain ⟨k8, n8, f8, A8, l8, d8, hv8, he8⟩ := enc_v l7
    rw [hv8]
    have Q27 := hide (Q26.out.trans hq7)
    have HV8 := hide hv8
    have HK7 := hide hk7
    have HR7 := hide hr7
    clear hq7 c0 c1 c2 c3 hv8 he8 hk7 hr7 hb7 hs26
    have z0 := (Q27.out.facts.1 _ 0 hb2).trans Z0.out
    have z1 := (Q27.out.facts.1 _ 1 hb2).trans Z1.out
    have z2 := (Q27.out.facts.1 _ 2 hb2).trans Z2.out
    have z3 := (Q27.out.facts.1 _ 3 hb2).trans Z3.out
    have y0 := (Q27.out.facts.2.1 _ 0 hb2).trans Y0.out
    have y1 := (Q27.out.facts.2.1 _ 1 hb2).trans Y1.out
    have y2 := (Q27.out.facts.2.1 _ 2 hb2).trans Y2.out
    have y3 := (Q27.out.facts.2.1 _ 3 hb2).trans Y3.out
    have HS5 := hide (set4c (.int .i64 k8) (.int .i64 n8) (.bool f8) (.slice A8 l8 d8) z0 z1 z2 z3 _ rfl)
    have HQS := hide (q_set4 (b := W.heap.size + 2) (.int .i64 k8) (.int .i64 n8) (.bool f8) (.slice A8 l8 d8) (HQ2.out.trans Q27.out) (by omega))
    go_wp2_with fail
    obtain ⟨s0, s1, s2, s3⟩ := HS5.out
    refine bodyPost_ret (v := .tuple #[.int .i64 a9, .agg #[.int .i64 k8, .int .i64 n8, .bool f8, .slice A8 l8 d8], .int .i64 e9]) (by simp [results, Try.results16, go_sem, s0, s1, s2, s3]) rfl ?_
    refine ⟨l7, by rw [RES.out, HV8.out, HA9.out, HX9.out], by rw [RES.out]; exact HK7.out, HR7.out.frame' (P := fun b => w6.heap.size ≤ b ∧ b < w7.heap.size) (fun i hi _ => ?_) (by simp) HB7.out, HQS.out⟩
    have hne : i ≠ W.heap.size + 2 := by have := hi.1; have := HS26.out; omega
    rw [heap_setCell_other _ _ _ _ (by simp; omega), heap_setCell_other _ _ _ _ (by simp; omega), heap_setCell_other _ _ _ _ (by simp; omega), heap_setCell_other _ _ _ _ (by simp; omega)]
  · have dz : (ee != 0) = true := by simp [hz]
    have RES : Hid (fdR wd l xs = (0, noL, ee)) := hide (by unfold fdR; rw [if_neg (by rw [HEE.out]; exact hz), HEE.out])
    clear hz
    have z0 := (Q24.out.facts.1 _ 0 hb2).trans Z0.out
    have z1 := (Q24.out.facts.1 _ 1 hb2).trans Z1.out
    have z2 := (Q24.out.facts.1 _ 2 hb2).trans Z2.out
    have z3 := (Q24.out.facts.1 _ 3 hb2).trans Z3.out
    have y0 := (Q24.out.facts.2.1 _ 0 hb2).trans Y0.out
    have y1 := (Q24.out.facts.2.1 _ 1 hb2).trans Y1.out
    have y2 := (Q24.out.facts.2.1 _ 2 hb2).trans Y2.out
    have y3 := (Q24.out.facts.2.1 _ 3 hb2).trans Y3.out
    have HS5 := hide (set4c (.int .i64 0) (.int .i64 0) (.bool false) (.slice none 0 0) z0 z1 z2 z3 _ rfl)
    have HQS := hide (q_set4 (b := W.heap.size + 2) (.int .i64 0) (.int .i64 0) (.bool false) (.slice none 0 0) (HQ2.out.trans Q24.out) (by omega))
    go_wp2_with fail
    obtain ⟨s0, s1, s2, s3⟩ := HS5.out
    refine bodyPost_ret (v := .tuple #[.int .i64 0, .agg #[.int .i64 0, .int .i64 0, .bool false, .slice none 0 0], .int .i64 ee]) (by simp [results, Try.results16, go_sem, s0, s1, s2, s3]) rfl ?_
    exact ⟨noL, by rw [RES.out] <;> rfl, by rw [RES.out], noL_R _, HQS.out⟩
end Go.Proofs.Ytbgbalfhbficaaa

namespace Go.Proofs.Ytbgbalfhbficaaa
open Go.RowKit
set_option linter.unusedVariables false
set_option linter.unusedSimpArgs false
abbrev celNo : Cel := .mk 0 false false none 0 0 []
theorem celNo_R (w : World) : CelR w celNo := .mk rfl (Sl.nil w) (fun _ => ⟨rfl, rfl⟩) (by decide) (fun p h => by cases h)
set_option maxRecDepth 100000 in
set_option maxHeartbeats 2000000 in
theorem CellFinds_true {l : Lay} {wd : Int} {b : Bool} {A6 : Option Addr} {n6 c6 : Nat} {xs : List Int} (w : World) (h : LayR w l) (hcnt : l.count ≤ 1048576) (hp : Sl 1 (encI .i64) w A6 n6 c6 xs) (hwd : (Lit.int .i64 wd).wf = true) : Calls Try.prog 5 #[.agg (encL l ++ (encI .i64 wd ++ encB b)).toArray, .slice A6 n6 c6] w fun e w' => e = .returned (.bool true) ∧ Q w w' := by
  obtain ⟨k, n, f, A, len, cap, hlv, hle⟩ := enc_v l
  rw [hle]
  show Calls _ _ #[.agg #[.int .i64 k, .int .i64 n, .bool f, .slice A len cap, .int .i64 wd, .bool b], .slice A6 n6 c6] w _
  obtain ⟨w2, hw2⟩ : ∃ w2, w.alloc (.cells #[.int .i64 k, .int .i64 n, .bool f, .slice A len cap, .int .i64 wd, .bool b] 28) = w2 := ⟨_, rfl⟩
  obtain ⟨hq2, hs2, hd⟩ := box1 hw2
  have h0 : w.heap.size < w2.heap.size := by omega
  have KA : Hid (∀ X, Q w2 X → X.cell? ⟨w.heap.size, 0, none⟩ = some (.int .i64 k) ∧ X.cell? ⟨w.heap.size, 1, none⟩ = some (.int .i64 n) ∧ X.cell? ⟨w.heap.size, 2, none⟩ = some (.bool f) ∧ X.cell? ⟨w.heap.size, 3, none⟩ = some (.slice A len cap) ∧ X.cell? ⟨w.heap.size, 4, none⟩ = some (.int .i64 wd) ∧ X.cell? ⟨w.heap.size, 5, none⟩ = some (.bool b)) := hide fun X hX => ⟨(hX.facts.1 _ 0 h0).trans (hd 0 _ rfl), (hX.facts.1 _ 1 h0).trans (hd 1 _ rfl), (hX.facts.1 _ 2 h0).trans (hd 2 _ rfl), (hX.facts.1 _ 3 h0).trans (hd 3 _ rfl), (hX.facts.1 _ 4 h0).trans (hd 4 _ rfl), (hX.facts.1 _ 5 h0).trans (hd 5 _ rfl)⟩
  have HLG := hide (Long_any h hcnt (celNo_R w) none 0 0)
  have HKN := hide (fun W => known_any W)
  unfold R1 at HKN
  rw [hlv] at HLG
  unfold Cel.v at HLG
  dsimp only at HLG
  have HLV := hide hlv
  have HW2 := hide hw2
  have HQ2 := hide hq2
  have H := hide h
  have HP := hide hp
  clear h hp hlv hle hw2 hq2 hd
  obtain ⟨k0, k1, k2, k3, t0, t1⟩ := KA.out w2 (Q.refl _)
  go_enter Try.func5, Try.ntmps5
  go_upto_region 1 with fail
  rw [HW2.out]
  go_wp2_with fail
  refine (HLG.out w2 HQ2.out).mono ?_
  rintro e w3 ⟨r, rfl, hr, hq3⟩
  have HQ3 := hide (HQ2.out.trans hq3)
  have Q23 := hide hq3
  clear k0 k1 k2 k3 t0 t1 hq3
  cases r with
  | true =>
    clear hr
    go_wp2_with fail
    refine (HKN.out _).mono ?_
    rintro e w5 ⟨rfl, hq5⟩
    go_wp2_with fail
    go_ret
    exact ⟨rfl, HQ3.out.trans hq5⟩
  | false =>
    have hc200 := (hr rfl).1
    clear hr
    by_cases h50 : 50 < n6
    · have d5 : decide ((50 : Int) < (n6 : Int)) = true := by simp; omega
      clear h50
      go_wp2_with fail
      refine (HKN.out _).mono ?_
      rintro e w5 ⟨rfl, hq5⟩
      go_wp2_with fail
      go_ret
      exact ⟨rfl, HQ3.out.trans hq5⟩
    · have d5 : decide ((50 : Int) < (n6 : Int)) = false := by simp; omega
      have HPF := hide (pFind_any H.out hcnt wd b HP.out (by omega))
      have HRF := hide (rFind_any H.out hcnt wd b HP.out (by omega))
      have HFR := hide (fdR_R H.out wd xs)
      have HFA := hide (fun he => fdR_al (wd := wd) (xs := xs) H.out he)
      obtain ⟨a9, ha9⟩ : ∃ a, (fdR wd l xs).1 = a := ⟨_, rfl⟩
      obtain ⟨m9, hm9⟩ : ∃ a, (fdR wd l xs).2.1 = a := ⟨_, rfl⟩
      obtain ⟨e9, he9⟩ : ∃ a, (fdR wd l xs).2.2 = a := ⟨_, rfl⟩
      obtain ⟨k9, n9, f9, A9, l9, d9, hv9, hx9⟩ := enc_v m9
      rw [HLV.out, ha9, hm9, he9] at HPF
      rw [HLV.out, ha9, hm9, he9, hv9] at HRF
      rw [hm9] at HFR
      rw [ha9, hm9, he9] at HFA
      unfold R1 at HRF
      have HV9 := hide hv9
      obtain ⟨k0, k1, k2, k3, t0, t1⟩ := KA.out w3 Q23.out
      clear ha9 hm9 he9 hv9 hx9 h50
      go_wp2_with fail
      refine (HPF.out w3 HQ3.out).mono ?_
      rintro e w4 ⟨l4, rfl, hk4, hr4, hq4⟩
      obtain ⟨k8, n8, f8, A8, l8, d8, hv8, hx8⟩ := enc_v l4
      rw [hv8]
      obtain ⟨w5, hw5⟩ : ∃ w5, w4.alloc (.cells #[.int .i64 k8, .int .i64 n8, .bool f8, .slice A8 l8 d8] 24) = w5 := ⟨_, rfl⟩
      obtain ⟨hq5, hs5, hd5⟩ := box1 hw5
      have hb4 : w4.heap.size < w5.heap.size := by omega
      have K5 : Hid (∀ X, Q w5 X → X.cell? ⟨w4.heap.size, 0, none⟩ = some (.int .i64 k8) ∧ X.cell? ⟨w4.heap.size, 1, none⟩ = some (.int .i64 n8) ∧ X.cell? ⟨w4.heap.size, 2, none⟩ = some (.bool f8) ∧ X.cell? ⟨w4.heap.size, 3, none⟩ = some (.slice A8 l8 d8)) := hide fun X hX => ⟨(hX.facts.1 _ 0 hb4).trans (hd5 0 _ rfl), (hX.facts.1 _ 1 hb4).trans (hd5 1 _ rfl), (hX.facts.1 _ 2 hb4).trans (hd5 2 _ rfl), (hX.facts.1 _ 3 hb4).trans (hd5 3 _ rfl)⟩
      have HQ5 := hide (HQ3.out.trans (hq4.trans hq5))
      have Q25 := hide (Q23.out.trans (hq4.trans hq5))
      have HW5 := hide hw5
      have HR4 := hide (hr4.up hq5)
      have HK4 := hide hk4
      have HV8 := hide hv8
      clear k0 k1 k2 k3 t0 t1 hq4 hv8 hx8 hw5 hd5 hq5 hr4 hk4
      obtain ⟨k0, k1, k2, k3, t0, t1⟩ := KA.out w5 Q25.out
      go_upto_region 4 with fail
      rw [HW5.out]
      go_wp2_with fail
      refine (HRF.out w5 HQ5.out).mono ?_
      rintro e w6 ⟨rfl, hq6⟩
      obtain ⟨w7, hw7⟩ : ∃ w7, w6.alloc (.cells #[.int .i64 k9, .int .i64 n9, .bool f9, .slice A9 l9 d9] 24) = w7 := ⟨_, rfl⟩
      obtain ⟨hq7, hs7, hd7⟩ := box1 hw7
      have u0 := hd7 0 _ rfl
      have u1 := hd7 1 _ rfl
      have u2 := hd7 2 _ rfl
      have u3 := hd7 3 _ rfl
      have HQ7 := hide (HQ5.out.trans (hq6.trans hq7))
      have Q57 := hide (hq6.trans hq7)
      have HW7 := hide hw7
      clear k0 k1 k2 k3 t0 t1 hq6 hw7 hd7 hq7
      obtain ⟨v0, v1, v2, v3⟩ := K5.out w7 Q57.out
      have HSM := hide (Same05_any (HR4.out.up Q57.out) (HFR.out.up HQ7.out) HK4.out w7 (Q.refl _))
      rw [HV8.out, HV9.out] at HSM
      unfold R1 at HSM
      have da : (a9 != a9) = false := by simp
      have de : (e9 != e9) = false := by simp
      go_upto_region 5 with fail
      rw [HW7.out]
      go_wp2_with fail
      refine HSM.out.mono ?_
      rintro e w8 ⟨rfl, hq8⟩
      have HQ8 := hide (HQ7.out.trans hq8)
      have Q58 := hide (Q57.out.trans hq8)
      clear u0 u1 u2 u3 v0 v1 v2 v3 hq8
      by_cases hz : e9 = 0
      · have dz : (e9 != 0) = false := by simp [hz]
        obtain ⟨f1, f2, f3, f4, f5, f6⟩ := HFA.out hz
        obtain ⟨g1, g2, g3, g4⟩ := shape_al (HR4.out.up Q58.out) (HFR.out.up HQ8.out) HK4.out wd
        have hal : alL wd l4 = (m9.room wd).2 ∧ eL wd l4 = 0 := by
          have h9 := eL_zero.2 f2
          refine ⟨?_, by rw [g1, h9]⟩
          rw [g2]
          unfold alL
          rw [if_pos h9]
        have HAL := hide (Align05_any (HR4.out.up Q58.out) (by omega) wd b w8 (Q.refl _))
        rw [HV8.out, hal.1, hal.2] at HAL
        unfold R1 at HAL
        obtain ⟨al, hale⟩ : ∃ al, (m9.room wd).2 = al := ⟨_, rfl⟩
        rw [hale] at HAL f1 f4
        have hpos := f1.pos
        have dp : decide (0 < al) = true := by simp; omega
        have hal0 : (al == 0) = false := by simp; omega
        have hrem : Int.tmod a9 al = 0 := by rw [Int.tmod_eq_emod_of_nonneg f3]; exact f4
        have hal8 : al ≤ 8 := by unfold isA at f1; omega
        rw [HP.out.len] at f5
        obtain ⟨v0, v1, v2, v3⟩ := K5.out w8 Q58.out
        obtain ⟨k0, k1, k2, k3, t0, t1⟩ := KA.out w8 (Q25.out.trans Q58.out)
        clear f1 f2 f4 f6 g1 g2 g3 g4 hal hale hz
        go_wp2_with fail
        refine HAL.out.mono ?_
        rintro e w9 ⟨rfl, hq9⟩
        have HQ9 := hide (HQ8.out.trans hq9)
        clear hq9 k0 k1 k2 k3 t0 t1 v0 v1 v2 v3
        go_wp2_with fail
        refine (HKN.out _).mono ?_
        rintro e w10 ⟨rfl, hq10⟩
        go_wp2_with fail
        go_ret
        exact ⟨rfl, HQ9.out.trans hq10⟩
      · have dz : (e9 != 0) = true := by simp [hz]
        clear hz
        go_wp2_with fail
        refine (HKN.out _).mono ?_
        rintro e w10 ⟨rfl, hq10⟩
        go_wp2_with fail
        go_ret
        exact ⟨rfl, HQ8.out.trans hq10⟩
end Go.Proofs.Ytbgbalfhbficaaa
