/- holder: the block that has a byte; a byte stored into a heap. Conditions: the heap reads so, and its blocks are of its bytes. -/
import Derived.Test.YtdaklffbfadghaaGreatHqL
namespace Go.Proofs.YtdaklffbfadghaaGreat
open Go.RowKit HP
set_option linter.unusedVariables false
theorem results_row_tmp {P : Program} {fn : Func} {p u : Tmp} {ty : TypeId} (h : fn.results = #[.cell p ty, .tmp u]) (tmps : Array Value) (w : World) (g : Nat) (t : TypeId) (cs : Array Value) (fr : Nat × Nat) (d : TypeDesc)
    (hp : tmps.getD p undef = .pointer (some ⟨g, 0, none⟩)) (hg : w.heap[g]? = some (.cells cs t fr))
    (hu : P.underlying ty = some d) (hd : (match d with | .struct _ | .array _ _ => true | _ => false) = true) (hi : (P.info? ty).map (·.size) = some cs.size) :
    (results fn tmps).run P w = .ok (.tuple #[.agg cs, tmps.getD u undef]) w := by
  have hp' : tmps[p]?.getD undef = .pointer (some ⟨g, 0, none⟩) := by simpa using hp
  simp [results, h, hp', asAddr, run_loadVar_row w g t ty cs fr d hg hu hd hi]
/-- a block has a byte -/
def inB (at_ : Int) (x : PB) : Bool := decide (x.1 ≤ at_) && decide (at_ < pend x)
def HoldPost (h : Hp) (at_ : Int) (w : World) (e : Ending) (w' : World) : Prop :=
  Q w w' ∧ ((h.bks.any (fun x => inB at_ x.pb) = false ∧ e = .returned (.tuple #[.agg #[.int .i64 0, .slice none 0 0], .bool false])) ∨
    ∃ (k : Nat) (x : Bk), h.bks[k]? = some x ∧ inB at_ x.pb = true ∧ (∀ (j : Nat) (y : Bk), j < k → h.bks[j]? = some y → inB at_ y.pb = false) ∧ e = .returned (.tuple #[.agg #[.int .i64 x.pb.1, x.bv], .bool true]))
set_option maxHeartbeats 2000000 in
set_option maxRecDepth 100000 in
theorem holder_any (h : Hp) (at_ : Int) (w : World) (H : HpR w h) (hN : Near h.bks) : Calls Tryz.prog 66 #[h.bptr, .int .i64 at_] w (HoldPost h at_ w) := by
  obtain ⟨A, c, -, hS, k5, hb⟩ := H.open_
  obtain ⟨hN1, hN2⟩ := hN
  have hmf : ∀ (fn : Fn) (first cap : Array Value) (w : World), (Instr.makeFunc fn first cap).run Tryz.prog w = .ok (.func fn first cap) w := fun _ _ _ _ => rfl
  obtain ⟨w1, hw1⟩ : ∃ w1, (w.alloc (.cells #[.int .i64 at_] 3)).alloc (.cells #[.int .i64 0, .slice none 0 0] 111) = w1 := ⟨_, rfl⟩
  have hq1 : Q w w1 := by rw [← hw1]; exact ((Q.refl w).alloc _).alloc _
  have d0 : w1.cell? ⟨w.heap.size, 0, none⟩ = some (.int .i64 at_) := by rw [← hw1, cell_old _ _ _ (by first | (simp; done) | (simp; omega)), cell_new]; rfl
  have r1 : w1.heap[w.heap.size + 1]? = some (.cells #[.int .i64 0, .slice none 0 0] 111 (0, 0)) := by rw [← hw1]; exact alloc2_new _ _ _
  have hs0 : w.heap.size < w1.heap.size := by rw [← hw1]; simp; omega
  have hs1 : w.heap.size + 1 < w1.heap.size := by rw [← hw1]; simp
  have HI := hide (idx_hold (fun x => inB at_ x.pb) (.pointer (some ⟨w.heap.size, 0, none⟩)) A _ c h.bks w1 (hS.up hq1) (by omega) (fun x hx W hW => by
    obtain ⟨a1, a2, a3⟩ := hN2 x hx
    exact holdC x.pb _ _ _ w.heap.size at_ W rfl a1 (by omega) (by omega) ((hW.facts.1 _ 0 hs0).trans d0) (by have := hW.size; omega)))
  have HSL := hide (fun W (hq : Q w W) k hk => (hS.up hq).bk k hk)
  unfold Hp.bptr
  unfold HoldPost
  obtain ⟨l, hl⟩ : ∃ l, l = h.bks := ⟨_, rfl⟩
  obtain ⟨n, hn⟩ : ∃ n, n = h.bks.length := ⟨_, rfl⟩
  obtain ⟨g, hg⟩ : ∃ g, g = h.blk := ⟨_, rfl⟩
  rw [← hn] at k5 hN1 HI HSL
  rw [← hl] at HI HSL hn ⊢
  rw [← hg] at k5 hb ⊢
  have HNE := hide hn
  have k5' := (hq1.facts.1 g 5 hb).trans k5
  have HW := hide hw1
  have HQ1 := hide hq1
  have hgl : g < w1.heap.size := by omega
  clear hS hN2 H hl hn hg hw1 d0
  go_enter Tryz.func66, Tryz.ntmps66
  go_wp2_with fail
  rw [HW.out]
  refine HI.out.mono ?_
  rintro e w2 ⟨z, rfl, hq2, hz⟩
  have k52 := (hq2.facts.1 g 5 hgl).trans k5'
  have r2 := (hq2.below.block _ hs1).trans r1
  have c20 : w2.cell? ⟨w.heap.size + 1, 0, none⟩ = some (.int .i64 0) := by rw [cell_of_row _ _ _ _ _ _ r2]; rfl
  have c21 : w2.cell? ⟨w.heap.size + 1, 1, none⟩ = some (.slice none 0 0) := by rw [cell_of_row _ _ _ _ _ _ r2]; rfl
  have f20 : w2.frozen? ⟨w.heap.size + 1, 0, none⟩ = false := frozen_of_row _ _ _ _ _ r2
  have f21 : w2.frozen? ⟨w.heap.size + 1, 1, none⟩ = false := frozen_of_row _ _ _ _ _ r2
  have hgn : ¬ g = w.heap.size + 1 := by omega
  have HR2 := hide r2
  have HQ2 := hide (HQ1.out.trans hq2)
  have hsz2 := hq2.size
  have FINQ : Hid (∀ u1 u2, Q w ((w2.setCell ⟨w.heap.size + 1, 0, none⟩ u1).setCell ⟨w.heap.size + 1, 1, none⟩ u2)) := fun u1 u2 => (HQ2.out.set (by simp) _).set (by simp) _
  clear r2 hq2 r1
  rcases hz with ⟨rfl, ha⟩ | ⟨k, x, rfl, hx, hp, hbf⟩
  · have HA := hide ha
    clear ha
    go_wp2_with fail
    have h1 := heap_setCell_same w2 (w.heap.size + 1) 0 _ _ (Value.int .i64 0) HR2.out
    have h2 := heap_setCell_same _ (w.heap.size + 1) 1 _ _ (Value.slice none 0 0) h1
    refine bodyPost_ret (v := .tuple #[.agg #[.int .i64 0, .slice none 0 0], .bool false]) ?_ rfl ?_
    · exact results_row_tmp (p := 4) (u := 5) rfl _ _ (w.heap.size + 1) _ _ _ _ (by simp) h2 Tryz.underlying111 rfl (by kernel_rfl)
    exact ⟨FINQ.out _ _, .inl ⟨HA.out, rfl⟩⟩
  · have hk : k < n := by rw [HNE.out]; exact (List.getElem?_eq_some_iff.1 hx).1
    obtain ⟨gl, o1, x', hA, hgl2, hx', x1, x2⟩ := HSL.out w2 HQ2.out k hk
    rw [hx] at hx'
    cases hx'
    subst hA
    have HX := hide hx
    have HP := hide hp
    have HBF := hide hbf
    obtain ⟨⟨xa, xb⟩, row, cap⟩ := x
    dsimp only at x1 x2
    obtain ⟨m, hm⟩ : ∃ m, m = xb.length := ⟨_, rfl⟩
    rw [← hm] at x2
    have HM := hide hm
    have hki : (k : Int) < (n : Int) := by omega
    have hkm : (k : Int) ≤ 100 := by omega
    have hkz : decide ((k : Int) < 0) = false := by simp
    clear hx hp hbf hm
    go_wp2_with fail
    have h1 := heap_setCell_same w2 (w.heap.size + 1) 0 _ _ (Value.int .i64 xa) HR2.out
    have h2 := heap_setCell_same _ (w.heap.size + 1) 1 _ _ (Value.slice (some ⟨row, 0, none⟩) m cap) h1
    refine bodyPost_ret (v := .tuple #[.agg #[.int .i64 xa, .slice (some ⟨row, 0, none⟩) m cap], .bool true]) ?_ rfl ?_
    · exact results_row_tmp (p := 4) (u := 5) rfl _ _ (w.heap.size + 1) _ _ _ _ (by simp) h2 Tryz.underlying111 rfl (by kernel_rfl)
    exact ⟨FINQ.out _ _, .inr ⟨k, _, HX.out, HP.out, HBF.out, by rw [HM.out]; rfl⟩⟩
/-! a byte stored -/
theorem flat_set {α β : Type} (f : α → List β) : ∀ (l : List α) (k : Nat) (x y : α), l[k]? = some x → f y = f x → (l.set k y).flatMap f = l.flatMap f
  | [], k, x, y, h, _ => by simp at h
  | z :: l, 0, x, y, h, e => by
    simp at h
    subst h
    simp [e]
  | z :: l, k + 1, x, y, h, e => by
    simp at h
    simp only [List.set_cons_succ, List.flatMap_cons]
    rw [flat_set f l k x y h e]
def putB (x : PB) (j : Nat) (b : Int) : PB := (x.1, x.2.set j b)
def storeH (h : Hp) (k : Nat) (y : Bk) (j : Nat) (b : Int) : Hp := { h with bks := h.bks.set k { y with pb := putB y.pb j b } }
theorem HpR.store {w : World} {h : Hp} (H : HpR w h) (k : Nat) (y : Bk) (hy : h.bks[k]? = some y) (j : Nat) (b : Int) : HpR (w.setCell ⟨y.row, j, none⟩ (.int .i64 b)) (storeH h k y j b) := by
  have hm : y ∈ h.bks := List.mem_of_getElem? hy
  have hk := (List.getElem?_eq_some_iff.1 hy).1
  have hrow : (h.bks.set k { y with pb := putB y.pb j b }).map (·.row) = h.bks.map (·.row) := by
    rw [List.map_set]
    refine List.ext_getElem? fun i => ?_
    rw [List.getElem?_set]
    split
    · rename_i e
      subst e
      rw [List.getElem?_map, hy]
      simp [hk]
    · rfl
  refine ⟨?_, ?_, ?_, fun e => ?_, fun e => ?_, ?_⟩
  · show (w.setCell ⟨y.row, j, none⟩ _).heap[h.blk]? = some (.cells h.cells _ _)
    rw [heap_setCell_other _ _ _ _ (fun e => H.ne_row hm e.symm)]
    exact H.cells
  · show (w.setCell ⟨y.row, j, none⟩ _).ownsRow 0 _ 2 h.lv (h.bks.set k _).length ((h.bks.set k _).flatMap encBk)
    rw [List.length_set, flat_set encBk h.bks k y _ hy (by unfold encBk Bk.bv putB; simp)]
    exact own_same H.live fun g hg => heap_setCell_other _ _ _ _ (fun e => H.live_row hg hm e.symm)
  · intro z hz
    have hz : z ∈ h.bks.set k { y with pb := putB y.pb j b } := hz
    obtain ⟨i, hi, e0⟩ := List.getElem_of_mem hz
    have hz' : (h.bks.set k { y with pb := putB y.pb j b })[i]? = some z := by rw [List.getElem?_eq_getElem hi, e0]
    rw [List.length_set] at hi
    by_cases e : k = i
    · subst e
      rw [List.getElem?_set_self hk] at hz'
      obtain rfl := Option.some.inj hz'
      have := own_set (g := y.row) (n := y.pb.2.length) (c := y.cap) (H.rows y hm) j (.int .i64 b)
      have e3 : intsV (y.pb.2.set j b) = (intsV y.pb.2).set j (.int .i64 b) := by unfold intsV; rw [List.map_set]
      show (w.setCell _ _).ownsRow 0 _ 1 (.slice (some ⟨y.row, 0, none⟩) (y.pb.2.set j b).length y.cap) (y.pb.2.set j b).length (intsV (y.pb.2.set j b))
      rw [e3, List.length_set]
      exact this
    · rw [List.getElem?_set_ne e] at hz'
      have hzm := List.mem_of_getElem? hz'
      refine own_same (H.rows _ hzm) fun g hg => heap_setCell_other _ _ _ _ ?_
      cases hg
      intro e4
      have n1 : (h.bks.map (·.row))[i]? = some y.row := by rw [List.getElem?_map, hz']; exact congrArg some e4
      have n2 : (h.bks.map (·.row))[k]? = some y.row := by rw [List.getElem?_map, hy]; rfl
      have := (List.getElem?_inj (by simpa using hi) H.apart).1 (n1.trans n2.symm)
      omega
  · show (w.setCell ⟨y.row, j, none⟩ _).heap[h.wb]? = some (.cells h.wrow _ _)
    rw [heap_setCell_other _ _ _ _ (H.row_wb hm (.inl e))]
    exact H.w1 e
  · show (w.setCell ⟨y.row, j, none⟩ _).heap[h.wb]? = some (.cells h.wrow _ _)
    rw [heap_setCell_other _ _ _ _ (H.row_wb hm (.inr e))]
    exact H.w2 e
  · show ((h.bks.set k _).map (·.row)).Nodup
    rw [hrow]
    exact H.apart
theorem Did.store {w w1 : World} {h h1 : Hp} (a : Did w h w1 h1) (k : Nat) (y : Bk) (hy : h1.bks[k]? = some y) (j : Nat) (b : Int) : Did w h (w1.setCell ⟨y.row, j, none⟩ (.int .i64 b)) (storeH h1 k y j b) :=
  a.trans ⟨a.rep.store k y hy j b, (Turn.refl _ _).set (.inr (.inr (.inl ⟨y, List.mem_of_getElem? hy, rfl⟩))) _, rfl, fun b' e => by
    rcases e with e | e | ⟨x, hx, e⟩ | e
    · exact .inl (.inl e)
    · exact .inl (.inr (.inl e))
    · refine .inl (.inr (.inr (.inl ?_)))
      rcases List.mem_or_eq_of_mem_set hx with hx | rfl
      · exact ⟨x, hx, e⟩
      · exact ⟨y, List.mem_of_getElem? hy, e⟩
    · exact .inl (.inr (.inr (.inr e)))⟩
/-- the cells of a block's bytes -/
theorem HpR.byte {w : World} {h : Hp} (H : HpR w h) {y : Bk} (hy : y ∈ h.bks) {j : Nat} {v : Int} (hj : y.pb.2[j]? = some v) : w.cell? ⟨y.row, j, none⟩ = some (.int .i64 v) ∧ w.frozen? ⟨y.row, j, none⟩ = false ∧ y.row < w.heap.size := by
  have ho := H.rows y hy
  obtain ⟨cs, e⟩ := own_blk ho y.own
  refine ⟨?_, frozen_of_row _ _ _ _ _ e, blk_lt e⟩
  rcases ho.2 with ⟨h1, -⟩ | ⟨g', cap, cur, h1, hb, hh, hle, hm, hs, ht⟩
  · cases h1
  · injection h1 with h1 _ _
    injection h1 with h1
    injection h1 with h1 _ _
    subst h1
    rw [cell_of_row _ _ _ _ _ _ hh]
    have hl := (List.getElem?_eq_some_iff.1 hj).1
    have h2 : (intsV y.pb.2)[j]? = some (.int .i64 v) := by unfold intsV; rw [List.getElem?_map, hj]; rfl
    rw [← ht, List.getElem?_take, if_pos (by omega)] at h2
    simpa using h2
end Go.Proofs.YtdaklffbfadghaaGreat
