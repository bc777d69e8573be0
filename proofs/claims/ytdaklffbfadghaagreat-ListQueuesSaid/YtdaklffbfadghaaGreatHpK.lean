/- The methods of a heap's way: which function each is, for each kind of heap; taken, gone. Conditions: the heap reads so. -/
import Derived.Test.YtdaklffbfadghaaGreatHpJ
namespace Go.Proofs.YtdaklffbfadghaaGreat
open Go.RowKit HP
set_option linter.unusedVariables false
/-- the way's method 'name' is function f, at receiver rcv -/
def Disp (h : Hp) (name : String) (f : Nat) (rcv : Value) : Prop :=
  ∃ ty v, h.way = .iface ty v ∧ (∀ w, (method 299 ty v name).run Tryz.prog w = .ok (f, rcv) w) ∧ (∀ args w, (callFunc f args).run Tryz.prog w = .ok (.enter f args) w)
theorem Hp.way0 {h : Hp} (e : h.kind = 0) : h.way = .iface 97 (.agg #[h.bptr]) := by unfold Hp.way; rw [if_pos e]
theorem Hp.way1 {h : Hp} (e : h.kind = 1) : h.way = .iface 98 (.pointer (some ⟨h.wb, 0, none⟩)) := by unfold Hp.way; rw [if_neg (by omega), if_pos e]
theorem Hp.way2 {h : Hp} (e : h.kind = 2) : h.way = .iface 101 (.pointer (some ⟨h.wb, 0, none⟩)) := by unfold Hp.way; rw [if_neg (by omega), if_neg (by omega), if_pos e]
theorem Hp.way3 {h : Hp} (e : h.kind = 3) : h.way = .iface 105 (.agg #[h.bptr, .int .i64 h.piece]) := by unfold Hp.way; rw [if_neg (by omega), if_neg (by omega), if_neg (by omega)]
theorem kind_cases {k : Int} (h : 0 ≤ k ∧ k ≤ 3) : k = 0 ∨ k = 1 ∨ k = 2 ∨ k = 3 := by omega
theorem disp_room0 {h : Hp} (e : h.kind = 0) : Disp h "mandrel/heap.room" 160 (.agg #[h.bptr]) := ⟨_, _, Hp.way0 e, fun w => by kernel_rfl, fun args w => Go.MuLone.run_callFunc_enter Tryz.func160 (by kernel_rfl) rfl args w⟩
theorem disp_room1 {h : Hp} (e : h.kind = 1) : Disp h "mandrel/heap.room" 170 (.pointer (some ⟨h.wb, 0, none⟩)) := ⟨_, _, Hp.way1 e, fun w => by kernel_rfl, fun args w => Go.MuLone.run_callFunc_enter Tryz.func170 (by kernel_rfl) rfl args w⟩
theorem disp_room2 {h : Hp} (e : h.kind = 2) : Disp h "mandrel/heap.room" 170 (.pointer (some ⟨h.wb, 0, none⟩)) := ⟨_, _, Hp.way2 e, fun w => by kernel_rfl, fun args w => Go.MuLone.run_callFunc_enter Tryz.func170 (by kernel_rfl) rfl args w⟩
theorem disp_room3 {h : Hp} (e : h.kind = 3) : Disp h "mandrel/heap.room" 181 (.agg #[h.bptr, .int .i64 h.piece]) := ⟨_, _, Hp.way3 e, fun w => by kernel_rfl, fun args w => Go.MuLone.run_callFunc_enter Tryz.func181 (by kernel_rfl) rfl args w⟩
theorem disp_taken0 {h : Hp} (e : h.kind = 0) : Disp h "mandrel/heap.taken" 162 (.agg #[h.bptr]) := ⟨_, _, Hp.way0 e, fun w => by kernel_rfl, fun args w => Go.MuLone.run_callFunc_enter Tryz.func162 (by kernel_rfl) rfl args w⟩
theorem disp_taken1 {h : Hp} (e : h.kind = 1) : Disp h "mandrel/heap.taken" 172 (.pointer (some ⟨h.wb, 0, none⟩)) := ⟨_, _, Hp.way1 e, fun w => by kernel_rfl, fun args w => Go.MuLone.run_callFunc_enter Tryz.func172 (by kernel_rfl) rfl args w⟩
theorem disp_taken2 {h : Hp} (e : h.kind = 2) : Disp h "mandrel/heap.taken" 172 (.pointer (some ⟨h.wb, 0, none⟩)) := ⟨_, _, Hp.way2 e, fun w => by kernel_rfl, fun args w => Go.MuLone.run_callFunc_enter Tryz.func172 (by kernel_rfl) rfl args w⟩
theorem disp_taken3 {h : Hp} (e : h.kind = 3) : Disp h "mandrel/heap.taken" 183 (.agg #[h.bptr, .int .i64 h.piece]) := ⟨_, _, Hp.way3 e, fun w => by kernel_rfl, fun args w => Go.MuLone.run_callFunc_enter Tryz.func183 (by kernel_rfl) rfl args w⟩
theorem disp_gone0 {h : Hp} (e : h.kind = 0) : Disp h "mandrel/heap.gone" 157 (.agg #[h.bptr]) := ⟨_, _, Hp.way0 e, fun w => by kernel_rfl, fun args w => Go.MuLone.run_callFunc_enter Tryz.func157 (by kernel_rfl) rfl args w⟩
theorem disp_gone1 {h : Hp} (e : h.kind = 1) : Disp h "mandrel/heap.gone" 167 (.pointer (some ⟨h.wb, 0, none⟩)) := ⟨_, _, Hp.way1 e, fun w => by kernel_rfl, fun args w => Go.MuLone.run_callFunc_enter Tryz.func167 (by kernel_rfl) rfl args w⟩
theorem disp_gone2 {h : Hp} (e : h.kind = 2) : Disp h "mandrel/heap.gone" 175 (.pointer (some ⟨h.wb, 0, none⟩)) := ⟨_, _, Hp.way2 e, fun w => by kernel_rfl, fun args w => Go.MuLone.run_callFunc_enter Tryz.func175 (by kernel_rfl) rfl args w⟩
theorem disp_gone3 {h : Hp} (e : h.kind = 3) : Disp h "mandrel/heap.gone" 178 (.agg #[h.bptr, .int .i64 h.piece]) := ⟨_, _, Hp.way3 e, fun w => by kernel_rfl, fun args w => Go.MuLone.run_callFunc_enter Tryz.func178 (by kernel_rfl) rfl args w⟩

/-- a store into the top -/
theorem HpR.setTop {w : World} {h : Hp} (H : HpR w h) (hk : h.kind = 1 ∨ h.kind = 2) (t : Int) : HpR (w.setCell ⟨h.wb, 1, none⟩ (.int .i64 t)) { h with top := t } where
  cells := by
    rw [heap_setCell_other _ _ _ _ (fun e => H.ne_wb hk e.symm)]
    exact H.cells
  live := own_same H.live fun g hg => heap_setCell_other _ _ _ _ (fun e => H.live_wb hg hk e.symm)
  rows := fun x hx => own_same (H.rows x hx) fun g hg => by
    cases hg
    exact heap_setCell_other _ _ _ _ (fun e => H.row_wb hx hk e.symm)
  w1 := fun e => heap_setCell_same w h.wb 1 h.wrow _ (.int .i64 t) (H.w1 e)
  w2 := fun e => heap_setCell_same w h.wb 1 h.wrow _ (.int .i64 t) (H.w2 e)
  apart := H.apart
theorem Did.setTop {w w1 : World} {h h1 : Hp} (a : Did w h w1 h1) (hk : h1.kind = 1 ∨ h1.kind = 2) (t : Int) : Did w h (w1.setCell ⟨h1.wb, 1, none⟩ (.int .i64 t)) { h1 with top := t } :=
  a.trans ⟨a.rep.setTop hk t, (Turn.refl _ _).set (.inr (.inr (.inr ⟨hk, rfl⟩))) _, rfl, fun b e => .inl e⟩
theorem HpR.wcell {w : World} {h : Hp} (H : HpR w h) (hk : h.kind = 1 ∨ h.kind = 2) : w.cell? ⟨h.wb, 0, none⟩ = some (.pointer (some ⟨h.blk, 4, none⟩)) ∧ w.cell? ⟨h.wb, 1, none⟩ = some (.int .i64 h.top) ∧ w.frozen? ⟨h.wb, 1, none⟩ = false ∧ h.wb < w.heap.size := by
  have hrow : ∃ T, w.heap[h.wb]? = some (.cells h.wrow T (0, 0)) := by
    rcases hk with hk | hk
    · exact ⟨_, H.w1 hk⟩
    · exact ⟨_, H.w2 hk⟩
  obtain ⟨T, hrow⟩ := hrow
  exact ⟨by rw [cell_of_row _ _ _ _ _ _ hrow]; rfl, by rw [cell_of_row _ _ _ _ _ _ hrow]; rfl, frozen_of_row _ _ _ _ _ hrow, blk_lt hrow⟩
/-- what becomes of a heap at 'taken', 'gone' of a block -/
def takenTop (h : Hp) (x : PB) : Int := if h.kind = 1 ∨ h.kind = 2 then pend x else h.top
def goneTop (h : Hp) (x : PB) : Int := if h.kind = 2 ∧ (h.bks.any fun y => decide (x.1 < y.pb.1)) = false then x.1 else h.top
def TopPost (t : Int) (w : World) (h : Hp) (e : Ending) (w' : World) : Prop := e = .returned (.tuple #[]) ∧ Did w h w' { h with top := t }
theorem TopPost.same {w w' : World} {h : Hp} (H : HpR w h) (hq : Q w w') : TopPost h.top w h (.returned (.tuple #[])) w' := ⟨rfl, Did.of_q H hq⟩
theorem ff_taken (h : Hp) (x : PB) (A : Option Addr) (c : Nat) (w : World) (H : HpR w h) : Calls Tryz.prog 162 #[.agg #[h.bptr], .agg #[.int .i64 x.1, .slice A x.2.length c]] w (TopPost h.top w h) := by
  have HH := hide H
  clear H
  go_enter Tryz.func162, Tryz.ntmps162
  go_wp2_with fail
  go_end0
  exact TopPost.same HH.out (((Q.refl w).alloc _).alloc _)
theorem pool_taken (h : Hp) (x : PB) (A : Option Addr) (c : Nat) (w : World) (H : HpR w h) : Calls Tryz.prog 183 #[.agg #[h.bptr, .int .i64 h.piece], .agg #[.int .i64 x.1, .slice A x.2.length c]] w (TopPost h.top w h) := by
  have HH := hide H
  clear H
  go_enter Tryz.func183, Tryz.ntmps183
  go_wp2_with fail
  go_end0
  exact TopPost.same HH.out (((Q.refl w).alloc _).alloc _)
theorem ff_gone (h : Hp) (x : PB) (A : Option Addr) (c : Nat) (w : World) (H : HpR w h) : Calls Tryz.prog 157 #[.agg #[h.bptr], .agg #[.int .i64 x.1, .slice A x.2.length c]] w (TopPost h.top w h) := by
  have HH := hide H
  clear H
  go_enter Tryz.func157, Tryz.ntmps157
  go_wp2_with fail
  go_end0
  exact TopPost.same HH.out (((Q.refl w).alloc _).alloc _)
theorem pool_gone (h : Hp) (x : PB) (A : Option Addr) (c : Nat) (w : World) (H : HpR w h) : Calls Tryz.prog 178 #[.agg #[h.bptr, .int .i64 h.piece], .agg #[.int .i64 x.1, .slice A x.2.length c]] w (TopPost h.top w h) := by
  have HH := hide H
  clear H
  go_enter Tryz.func178, Tryz.ntmps178
  go_wp2_with fail
  go_end0
  exact TopPost.same HH.out (((Q.refl w).alloc _).alloc _)
theorem bump_gone (h : Hp) (x : PB) (A : Option Addr) (c : Nat) (w : World) (H : HpR w h) : Calls Tryz.prog 167 #[.pointer (some ⟨h.wb, 0, none⟩), .agg #[.int .i64 x.1, .slice A x.2.length c]] w (TopPost h.top w h) := by
  have HH := hide H
  clear H
  go_enter Tryz.func167, Tryz.ntmps167
  go_wp2_with fail
  go_end0
  exact TopPost.same HH.out ((Q.refl w).alloc _)
theorem bump_taken (h : Hp) (x : PB) (A : Option Addr) (c : Nat) (w : World) (H : HpR w h) (hk : h.kind = 1 ∨ h.kind = 2) (hx0 : 0 ≤ x.1) (hx1 : x.1 ≤ 10000) (hn : x.2.length ≤ 10000) :
    Calls Tryz.prog 172 #[.pointer (some ⟨h.wb, 0, none⟩), .agg #[.int .i64 x.1, .slice A x.2.length c]] w (TopPost (pend x) w h) := by
  obtain ⟨c0, c1, f1, hl⟩ := H.wcell hk
  have HH := hide H
  have HE := fun W => hide (end_any x.1 A x.2.length c W hx0 (by omega) (by omega))
  rw [show x.1 + (x.2.length : Int) = pend x from rfl] at HE
  obtain ⟨t, ht⟩ : ∃ t, t = pend x := ⟨_, rfl⟩
  rw [← ht] at HE ⊢
  obtain ⟨x1, x2⟩ := x
  dsimp only at HE hx0 hx1 hn ⊢
  obtain ⟨n, hn'⟩ : ∃ n, n = x2.length := ⟨_, rfl⟩
  rw [← hn'] at HE hn ⊢
  obtain ⟨q, hq⟩ : ∃ q, q = h.wb := ⟨_, rfl⟩
  rw [← hq] at c0 c1 f1 hl ⊢
  have HQ := hide hq
  clear H ht hn' hq
  go_enter Tryz.func172, Tryz.ntmps172
  go_wp2_with fail
  refine (HE _).out.mono ?_
  rintro e w2 ⟨rfl, hq2⟩
  have hq3 : Q w w2 := ((Q.refl w).alloc _).trans hq2
  have c2 := (hq3.facts.1 q 1 hl).trans c1
  have f2 := (hq3.facts.2.1 q 1 hl).trans f1
  go_wp2_with fail
  go_end0
  have hd := Did.setTop (Did.of_q HH.out hq3) hk t
  exact ⟨rfl, by rw [HQ.out]; exact hd⟩
set_option maxHeartbeats 1000000 in
theorem fixed_gone (h : Hp) (x : PB) (A : Option Addr) (c : Nat) (w : World) (H : HpR w h) (hk : h.kind = 2) (hN : h.bks.length ≤ 100) :
    Calls Tryz.prog 175 #[.pointer (some ⟨h.wb, 0, none⟩), .agg #[.int .i64 x.1, .slice A x.2.length c]] w (TopPost (goneTop h x) w h) := by
  obtain ⟨c0, c1, f1, hl⟩ := H.wcell (.inr hk)
  obtain ⟨A5, c5, -, hS, k5, hb⟩ := H.open_
  obtain ⟨x1, x2⟩ := x
  have hG : goneTop h (x1, x2) = if (h.bks.any fun y => decide (x1 < y.pb.1)) = false then x1 else h.top := by unfold goneTop; simp [hk]
  rw [hG]
  clear hG
  obtain ⟨w1, hw1⟩ : ∃ w1, w.alloc (.cells #[.int .i64 x1, .slice A x2.length c] 111) = w1 := ⟨_, rfl⟩
  have hq1 : Q w w1 := by rw [← hw1]; exact (Q.refl w).alloc _
  have b0 : w1.cell? ⟨w.heap.size, 0, none⟩ = some (.int .i64 x1) := by rw [← hw1, cell_new]; rfl
  have hs1 : w.heap.size < w1.heap.size := by rw [← hw1]; simp
  have HC := hide (has_gone (fun y => decide (x1 < y.pb.1)) (.pointer (some ⟨w.heap.size, 0, none⟩)) A5 _ c5 h.bks w1 (hS.up hq1) (by omega) (fun y hy W hW => goneC y.pb.1 _ _ _ w.heap.size x1 W ((hW.facts.1 _ 0 hs1).trans b0) (by have := hW.size; omega)))
  have hmf : ∀ (fn : Fn) (first cap : Array Value) (w : World), (Instr.makeFunc fn first cap).run Tryz.prog w = .ok (.func fn first cap) w := fun _ _ _ _ => rfl
  obtain ⟨bl, hbl⟩ : ∃ bl, bl = h.bks.any fun y => decide (x1 < y.pb.1) := ⟨_, rfl⟩
  rw [← hbl] at HC ⊢
  have HH := hide H
  have HW := hide hw1
  obtain ⟨q, hq⟩ : ∃ q, q = h.wb := ⟨_, rfl⟩
  obtain ⟨g, hg⟩ : ∃ g, g = h.blk := ⟨_, rfl⟩
  obtain ⟨n, hn'⟩ : ∃ n, n = h.bks.length := ⟨_, rfl⟩
  rw [← hn'] at HC k5
  rw [← hg] at c0 k5 hb
  rw [← hq] at c0 c1 f1 hl ⊢
  have HQ := hide hq
  have c0' := (hq1.facts.1 q 0 hl).trans c0
  have k5' := (hq1.facts.1 g 5 hb).trans k5
  clear H hS hbl hw1 hq hg hn' c0' k5' hN
  cases bl
  · rw [if_pos rfl]
    go_enter Tryz.func175, Tryz.ntmps175
    go_wp2_with fail
    rw [HW.out]
    refine HC.out.mono ?_
    rintro e w2 ⟨rfl, hq2⟩
    have hq3 : Q w w2 := hq1.trans hq2
    have c2 := (hq3.facts.1 q 1 hl).trans c1
    have f2 := (hq3.facts.2.1 q 1 hl).trans f1
    have b2 := (hq2.facts.1 _ 0 hs1).trans b0
    go_wp2_with fail
    go_end0
    have hd := Did.setTop (Did.of_q HH.out hq3) (.inr hk) x1
    exact ⟨rfl, by rw [HQ.out]; exact hd⟩
  · rw [if_neg (by simp)]
    go_enter Tryz.func175, Tryz.ntmps175
    go_wp2_with fail
    rw [HW.out]
    refine HC.out.mono ?_
    rintro e w2 ⟨rfl, hq2⟩
    go_wp2_with fail
    go_end0
    exact TopPost.same HH.out (hq1.trans hq2)
/-! the three methods, whatever the kind -/
theorem room_any (h : Hp) (O : Ok h) : ∃ f rcv, Disp h "mandrel/heap.room" f rcv ∧ ∀ (n align : Int) (w : World), HpR w h → 1 ≤ n → n ≤ 4096 → 1 ≤ align → align ≤ 16 → Calls Tryz.prog f #[rcv, .int .i64 n, .int .i64 align] w (RoomPost (roomM h.m n align) w) := by
  rcases kind_cases O.kind with e | e | e | e
  · refine ⟨_, _, disp_room0 e, fun n al w H a b c d => ?_⟩
    have : roomM h.m n al = scanF (ffP h.size (h.bks.map (·.pb)) n) (h.size - n) al 5000 0 := by unfold roomM; rw [if_pos (show h.m.kind = 0 from e)]; rfl
    rw [this]
    exact ff_room h n al w H O a b c d
  · refine ⟨_, _, disp_room1 e, fun n al w H a b c d => ?_⟩
    have : roomM h.m n al = if upTo h.top al + n ≤ h.size then some (upTo h.top al) else none := by unfold roomM; rw [if_neg (show ¬ h.m.kind = 0 by show ¬ h.kind = 0; omega), if_neg (show ¬ h.m.kind = 3 by show ¬ h.kind = 3; omega)]; rfl
    rw [this]
    exact bump_room h n al w H O (.inl e) a b c d
  · refine ⟨_, _, disp_room2 e, fun n al w H a b c d => ?_⟩
    have : roomM h.m n al = if upTo h.top al + n ≤ h.size then some (upTo h.top al) else none := by unfold roomM; rw [if_neg (show ¬ h.m.kind = 0 by show ¬ h.kind = 0; omega), if_neg (show ¬ h.m.kind = 3 by show ¬ h.kind = 3; omega)]; rfl
    rw [this]
    exact bump_room h n al w H O (.inr e) a b c d
  · refine ⟨_, _, disp_room3 e, fun n al w H a b c d => ?_⟩
    have : roomM h.m n al = if n ≤ h.piece then scanF (poolP h.size (h.bks.map (·.pb)) h.piece al) (h.size - h.piece) h.piece 5000 0 else none := by unfold roomM; rw [if_neg (show ¬ h.m.kind = 0 by show ¬ h.kind = 0; omega), if_pos (show h.m.kind = 3 from e)]; rfl
    rw [this]
    exact pool_room h n al w H O e a b c d
theorem taken_any (h : Hp) (hk : 0 ≤ h.kind ∧ h.kind ≤ 3) : ∃ f rcv, Disp h "mandrel/heap.taken" f rcv ∧ ∀ (x : PB) (A : Option Addr) (c : Nat) (w : World), HpR w h → 0 ≤ x.1 → x.1 ≤ 10000 → x.2.length ≤ 10000 → Calls Tryz.prog f #[rcv, .agg #[.int .i64 x.1, .slice A x.2.length c]] w (TopPost (takenTop h x) w h) := by
  rcases kind_cases hk with e | e | e | e
  · refine ⟨_, _, disp_taken0 e, fun x A c w H _ _ _ => ?_⟩
    rw [show takenTop h x = h.top by unfold takenTop; rw [if_neg (by omega)]]
    exact ff_taken h x A c w H
  · refine ⟨_, _, disp_taken1 e, fun x A c w H a b d => ?_⟩
    rw [show takenTop h x = pend x by unfold takenTop; rw [if_pos (by omega)]]
    exact bump_taken h x A c w H (.inl e) a b d
  · refine ⟨_, _, disp_taken2 e, fun x A c w H a b d => ?_⟩
    rw [show takenTop h x = pend x by unfold takenTop; rw [if_pos (by omega)]]
    exact bump_taken h x A c w H (.inr e) a b d
  · refine ⟨_, _, disp_taken3 e, fun x A c w H _ _ _ => ?_⟩
    rw [show takenTop h x = h.top by unfold takenTop; rw [if_neg (by omega)]]
    exact pool_taken h x A c w H
theorem gone_any (h : Hp) (hk : 0 ≤ h.kind ∧ h.kind ≤ 3) (hN : h.bks.length ≤ 100) : ∃ f rcv, Disp h "mandrel/heap.gone" f rcv ∧ ∀ (x : PB) (A : Option Addr) (c : Nat) (w : World), HpR w h → Calls Tryz.prog f #[rcv, .agg #[.int .i64 x.1, .slice A x.2.length c]] w (TopPost (goneTop h x) w h) := by
  have hn : ∀ x, ¬ h.kind = 2 → goneTop h x = h.top := fun x e => by unfold goneTop; rw [if_neg (fun h => e h.1)]
  rcases kind_cases hk with e | e | e | e
  · refine ⟨_, _, disp_gone0 e, fun x A c w H => ?_⟩
    rw [hn x (by omega)]
    exact ff_gone h x A c w H
  · refine ⟨_, _, disp_gone1 e, fun x A c w H => ?_⟩
    rw [hn x (by omega)]
    exact bump_gone h x A c w H
  · exact ⟨_, _, disp_gone2 e, fun x A c w H => fixed_gone h x A c w H e hN⟩
  · refine ⟨_, _, disp_gone3 e, fun x A c w H => ?_⟩
    rw [hn x (by omega)]
    exact pool_gone h x A c w H
end Go.Proofs.YtdaklffbfadghaaGreat
