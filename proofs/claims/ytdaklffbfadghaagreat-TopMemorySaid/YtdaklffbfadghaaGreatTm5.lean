/- The methods of a heap's way: which function each is, for each kind of heap; taken, gone. counted, note. put: a block laid among the live ones. take: a live block taken out. The acts of a heap in plain Lean, and what holds of every heap that New made. No program. Alloc. Free. Conditions: as each theorem says. -/
import Derived.Test.YtdaklffbfadghaaGreatTm4
import Derived.Test.YtdaklffbfadghaaGreatTm1
import Derived.Conc.MuData
namespace Go.Proofs.YtdaklffbfadghaaGreat
open Go.RowKit HP
set_option linter.unusedVariables false
/-- the way's method 'name' is function f, at receiver rcv -/
def Disp (h : Hp) (name : String) (f : Nat) (rcv : Value) : Prop :=
  ∃ ty v, h.way = .iface ty v ∧ (∀ w, (method 299 ty v name).run Tryz.prog w = .ok (f, rcv) w) ∧ (∀ args w, (callFunc f args).run Tryz.prog w = .ok (.enter f args) w)
theorem Hp.way0 {h : Hp} (e : h.kind = 0) : h.way = .iface 97 (.agg #[h.bptr]) := by unfold Hp.way; rw [if_pos e]
theorem Hp.way1 {h : Hp} (e : h.kind = 1) : h.way = .iface 98 (.pointer (some ⟨h.wb, 0, none⟩)) := by unfold Hp.way; rw [if_neg (by omega), if_pos e]
theorem Hp.way2 {h : Hp} (e : h.kind = 2) : h.way = .iface 101 (.pointer (some ⟨h.wb, 0, none⟩)) := by unfold Hp.way; rw [if_neg (by omega), if_neg (by omega), if_pos e]
theorem Hp.way3 {h : Hp} (e : h.kind = 3) : h.way = .iface 105 (.agg #[h.bptr, .int .i64 h.piece]) := by unfold Hp.way; rw [if_neg (by omega), if_neg (by omega), if_neg (by omega)]
theorem kind_cases {k : Int} (h : 0 ≤ k ∧ k ≤ 3) : k = 0 ∨ k = 1 ∨ k = 2 ∨ k = 3 := by omega
theorem disp_room0 {h : Hp} (e : h.kind = 0) : Disp h "mandrel/heap.room" 160 (.agg #[h.bptr]) := ⟨_, _, Hp.way0 e, fun w => by kernel_rfl, fun args w => Go.MuLone.run_callFunc_enter Tryz.func160 (by kernel_rfl) rfl args w⟩
theorem disp_room1 {h : Hp} (e : h.kind = 1) : Disp h "mandrel/heap.room" 170 (.pointer (some ⟨h.wb, 0, none⟩)) := ⟨_, _, Hp.way1 e, fun w => by kernel_rfl, fun args w => Go.MuLone.run_callFunc_enter Tryz.func170 (by kernel_rfl) rfl args w⟩
theorem disp_room2 {h : Hp} (e : h.kind = 2) : Disp h "mandrel/heap.room" 170 (.pointer (some ⟨h.wb, 0, none⟩)) := ⟨_, _, Hp.way2 e, fun w => by kernel_rfl, fun args w => Go.MuLone.run_callFunc_enter Tryz.func170 (by kernel_rfl) rfl args w⟩
theorem disp_room3 {h : Hp} (e : h.kind = 3) : Disp h "mandrel/heap.room" 181 (.agg #[h.bptr, .int .i64 h.piece]) := ⟨_, _, Hp.way3 e, fun w => by kernel_rfl, fun args w => Go.MuLone.run_callFunc_enter Tryz.func181 (by kernel_rfl) rfl args w⟩
theorem disp_taken0 {h : Hp} (e : h.kind = 0) : Disp h "mandrel/heap.taken" 162 (.agg #[h.bptr]) := ⟨_, _, Hp.way0 e, fun w => by kernel_rfl, fun args w => Go.MuLone.run_callFunc_enter Tryz.func162 (by kernel_rfl) rfl args w⟩
theorem disp_taken1 {h : Hp} (e : h.kind = 1) : Disp h "mandrel/heap.taken" 172 (.pointer (some ⟨h.wb, 0, none⟩)) := ⟨_, _, Hp.way1 e, fun w => by kernel_rfl, fun args w => Go.MuLone.run_callFunc_enter Tryz.func172 (by kernel_rfl) rfl args w⟩
theorem disp_taken2 {h : Hp} (e : h.kind = 2) : Disp h "mandrel/heap.taken" 172 (.pointer (some ⟨h.wb, 0, none⟩)) := ⟨_, _, Hp.way2 e, fun w => by kernel_rfl, fun args w => Go.MuLone.run_callFunc_enter Tryz.func172 (by kernel_rfl) rfl args w⟩
theorem disp_taken3 {h : Hp} (e : h.kind = 3) : Disp h "mandrel/heap.taken" 183 (.agg #[h.bptr, .int .i64 h.piece]) := ⟨_, _, Hp.way3 e, fun w => by kernel_rfl, fun args w => Go.MuLone.run_callFunc_enter Tryz.func183 (by kernel_rfl) rfl args w⟩
theorem disp_gone0 {h : Hp} (e : h.kind = 0) : Disp h "mandrel/heap.gone" 157 (.agg #[h.bptr]) := ⟨_, _, Hp.way0 e, fun w => by kernel_rfl, fun args w => Go.MuLone.run_callFunc_enter Tryz.func157 (by kernel_rfl) rfl args w⟩
theorem disp_gone1 {h : Hp} (e : h.kind = 1) : Disp h "mandrel/heap.gone" 167 (.pointer (some ⟨h.wb, 0, none⟩)) := ⟨_, _, Hp.way1 e, fun w => by kernel_rfl, fun args w => Go.MuLone.run_callFunc_enter Tryz.func167 (by kernel_rfl) rfl args w⟩
theorem disp_gone2 {h : Hp} (e : h.kind = 2) : Disp h "mandrel/heap.gone" 175 (.pointer (some ⟨h.wb, 0, none⟩)) := ⟨_, _, Hp.way2 e, fun w => by kernel_rfl, fun args w => Go.MuLone.run_callFunc_enter Tryz.func175 (by kernel_rfl) rfl args w⟩
theorem disp_gone3 {h : Hp} (e : h.kind = 3) : Disp h "mandrel/heap.gone" 178 (.agg #[h.bptr, .int .i64 h.piece]) := ⟨_, _, Hp.way3 e, fun w => by kernel_rfl, fun args w => Go.MuLone.run_callFunc_enter Tryz.func178 (by kernel_rfl) rfl args w⟩

/-- a store into the top -/
theorem HpR.setTop {w : World} {h : Hp} (H : HpR w h) (hk : h.kind = 1 ∨ h.kind = 2) (t : Int) : HpR (w.setCell ⟨h.wb, 1, none⟩ (.int .i64 t)) { h with top := t } where
  cells := by
    rw [heap_setCell_other _ _ _ _ (fun e => H.ne_wb hk e.symm)]
    exact H.cells
  live := own_same H.live fun g hg => heap_setCell_other _ _ _ _ (fun e => H.live_wb hg hk e.symm)
  rows := fun x hx => own_same (H.rows x hx) fun g hg => by
    cases hg
    exact heap_setCell_other _ _ _ _ (fun e => H.row_wb hx hk e.symm)
  w1 := fun e => heap_setCell_same w h.wb 1 h.wrow _ (.int .i64 t) (H.w1 e)
  w2 := fun e => heap_setCell_same w h.wb 1 h.wrow _ (.int .i64 t) (H.w2 e)
  apart := H.apart
theorem Did.setTop {w w1 : World} {h h1 : Hp} (a : Did w h w1 h1) (hk : h1.kind = 1 ∨ h1.kind = 2) (t : Int) : Did w h (w1.setCell ⟨h1.wb, 1, none⟩ (.int .i64 t)) { h1 with top := t } :=
  a.trans ⟨a.rep.setTop hk t, (Turn.refl _ _).set (.inr (.inr (.inr ⟨hk, rfl⟩))) _, rfl, fun b e => .inl e⟩
theorem HpR.wcell {w : World} {h : Hp} (H : HpR w h) (hk : h.kind = 1 ∨ h.kind = 2) : w.cell? ⟨h.wb, 0, none⟩ = some (.pointer (some ⟨h.blk, 4, none⟩)) ∧ w.cell? ⟨h.wb, 1, none⟩ = some (.int .i64 h.top) ∧ w.frozen? ⟨h.wb, 1, none⟩ = false ∧ h.wb < w.heap.size := by
  have hrow : ∃ T, w.heap[h.wb]? = some (.cells h.wrow T (0, 0)) := by
    rcases hk with hk | hk
    · exact ⟨_, H.w1 hk⟩
    · exact ⟨_, H.w2 hk⟩
  obtain ⟨T, hrow⟩ := hrow
  exact ⟨by rw [cell_of_row _ _ _ _ _ _ hrow]; rfl, by rw [cell_of_row _ _ _ _ _ _ hrow]; rfl, frozen_of_row _ _ _ _ _ hrow, blk_lt hrow⟩
/-- what becomes of a heap at 'taken', 'gone' of a block -/
def takenTop (h : Hp) (x : PB) : Int := if h.kind = 1 ∨ h.kind = 2 then pend x else h.top
def goneTop (h : Hp) (x : PB) : Int := if h.kind = 2 ∧ (h.bks.any fun y => decide (x.1 < y.pb.1)) = false then x.1 else h.top
def TopPost (t : Int) (w : World) (h : Hp) (e : Ending) (w' : World) : Prop := e = .returned (.tuple #[]) ∧ Did w h w' { h with top := t }
theorem TopPost.same {w w' : World} {h : Hp} (H : HpR w h) (hq : Q w w') : TopPost h.top w h (.returned (.tuple #[])) w' := ⟨rfl, Did.of_q H hq⟩
theorem ff_taken (h : Hp) (x : PB) (A : Option Addr) (c : Nat) (w : World) (H : HpR w h) : Calls Tryz.prog 162 #[.agg #[h.bptr], .agg #[.int .i64 x.1, .slice A x.2.length c]] w (TopPost h.top w h) := by
  have HH := hide H
  clear H
  go_enter Tryz.func162, Tryz.ntmps162
  go_wp2_with fail
  go_end0
  exact TopPost.same HH.out (((Q.refl w).alloc _).alloc _)
theorem pool_taken (h : Hp) (x : PB) (A : Option Addr) (c : Nat) (w : World) (H : HpR w h) : Calls Tryz.prog 183 #[.agg #[h.bptr, .int .i64 h.piece], .agg #[.int .i64 x.1, .slice A x.2.length c]] w (TopPost h.top w h) := by
  have HH := hide H
  clear H
  go_enter Tryz.func183, Tryz.ntmps183
  go_wp2_with fail
  go_end0
  exact TopPost.same HH.out (((Q.refl w).alloc _).alloc _)
theorem ff_gone (h : Hp) (x : PB) (A : Option Addr) (c : Nat) (w : World) (H : HpR w h) : Calls Tryz.prog 157 #[.agg #[h.bptr], .agg #[.int .i64 x.1, .slice A x.2.length c]] w (TopPost h.top w h) := by
  have HH := hide H
  clear H
  go_enter Tryz.func157, Tryz.ntmps157
  go_wp2_with fail
  go_end0
  exact TopPost.same HH.out (((Q.refl w).alloc _).alloc _)
theorem pool_gone (h : Hp) (x : PB) (A : Option Addr) (c : Nat) (w : World) (H : HpR w h) : Calls Tryz.prog 178 #[.agg #[h.bptr, .int .i64 h.piece], .agg #[.int .i64 x.1, .slice A x.2.length c]] w (TopPost h.top w h) := by
  have HH := hide H
  clear H
  go_enter Tryz.func178, Tryz.ntmps178
  go_wp2_with fail
  go_end0
  exact TopPost.same HH.out (((Q.refl w).alloc _).alloc _)
theorem bump_gone (h : Hp) (x : PB) (A : Option Addr) (c : Nat) (w : World) (H : HpR w h) : Calls Tryz.prog 167 #[.pointer (some ⟨h.wb, 0, none⟩), .agg #[.int .i64 x.1, .slice A x.2.length c]] w (TopPost h.top w h) := by
  have HH := hide H
  clear H
  go_enter Tryz.func167, Tryz.ntmps167
  go_wp2_with fail
  go_end0
  exact TopPost.same HH.out ((Q.refl w).alloc _)
theorem bump_taken (h : Hp) (x : PB) (A : Option Addr) (c : Nat) (w : World) (H : HpR w h) (hk : h.kind = 1 ∨ h.kind = 2) (hx0 : 0 ≤ x.1) (hx1 : x.1 ≤ 10000) (hn : x.2.length ≤ 10000) :
    Calls Tryz.prog 172 #[.pointer (some ⟨h.wb, 0, none⟩), .agg #[.int .i64 x.1, .slice A x.2.length c]] w (TopPost (pend x) w h) := by
  obtain ⟨c0, c1, f1, hl⟩ := H.wcell hk
  have HH := hide H
  have HE := fun W => hide (end_any x.1 A x.2.length c W hx0 (by omega) (by omega))
  rw [show x.1 + (x.2.length : Int) = pend x from rfl] at HE
  obtain ⟨t, ht⟩ : ∃ t, t = pend x := ⟨_, rfl⟩
  rw [← ht] at HE ⊢
  obtain ⟨x1, x2⟩ := x
  dsimp only at HE hx0 hx1 hn ⊢
  obtain ⟨n, hn'⟩ : ∃ n, n = x2.length := ⟨_, rfl⟩
  rw [← hn'] at HE hn ⊢
  obtain ⟨q, hq⟩ : ∃ q, q = h.wb := ⟨_, rfl⟩
  rw [← hq] at c0 c1 f1 hl ⊢
  have HQ := hide hq
  clear H ht hn' hq
  go_enter Tryz.func172, Tryz.ntmps172
  go_wp2_with fail
  refine (HE _).out.mono ?_
  rintro e w2 ⟨rfl, hq2⟩
  have hq3 : Q w w2 := ((Q.refl w).alloc _).trans hq2
  have c2 := (hq3.facts.1 q 1 hl).trans c1
  have f2 := (hq3.facts.2.1 q 1 hl).trans f1
  go_wp2_with fail
  go_end0
  have hd := Did.setTop (Did.of_q HH.out hq3) hk t
  exact ⟨rfl, by rw [HQ.out]; exact hd⟩
set_option maxHeartbeats 1000000 in
theorem fixed_gone (h : Hp) (x : PB) (A : Option Addr) (c : Nat) (w : World) (H : HpR w h) (hk : h.kind = 2) (hN : h.bks.length ≤ 100) :
    Calls Tryz.prog 175 #[.pointer (some ⟨h.wb, 0, none⟩), .agg #[.int .i64 x.1, .slice A x.2.length c]] w (TopPost (goneTop h x) w h) := by
  obtain ⟨c0, c1, f1, hl⟩ := H.wcell (.inr hk)
  obtain ⟨A5, c5, -, hS, k5, hb⟩ := H.open_
  obtain ⟨x1, x2⟩ := x
  have hG : goneTop h (x1, x2) = if (h.bks.any fun y => decide (x1 < y.pb.1)) = false then x1 else h.top := by unfold goneTop; simp [hk]
  rw [hG]
  clear hG
  obtain ⟨w1, hw1⟩ : ∃ w1, w.alloc (.cells #[.int .i64 x1, .slice A x2.length c] 111) = w1 := ⟨_, rfl⟩
  have hq1 : Q w w1 := by rw [← hw1]; exact (Q.refl w).alloc _
  have b0 : w1.cell? ⟨w.heap.size, 0, none⟩ = some (.int .i64 x1) := by rw [← hw1, cell_new]; rfl
  have hs1 : w.heap.size < w1.heap.size := by rw [← hw1]; simp
  have HC := hide (has_gone (fun y => decide (x1 < y.pb.1)) (.pointer (some ⟨w.heap.size, 0, none⟩)) A5 _ c5 h.bks w1 (hS.up hq1) (by omega) (fun y hy W hW => goneC y.pb.1 _ _ _ w.heap.size x1 W ((hW.facts.1 _ 0 hs1).trans b0) (by have := hW.size; omega)))
  have hmf : ∀ (fn : Fn) (first cap : Array Value) (w : World), (Instr.makeFunc fn first cap).run Tryz.prog w = .ok (.func fn first cap) w := fun _ _ _ _ => rfl
  obtain ⟨bl, hbl⟩ : ∃ bl, bl = h.bks.any fun y => decide (x1 < y.pb.1) := ⟨_, rfl⟩
  rw [← hbl] at HC ⊢
  have HH := hide H
  have HW := hide hw1
  obtain ⟨q, hq⟩ : ∃ q, q = h.wb := ⟨_, rfl⟩
  obtain ⟨g, hg⟩ : ∃ g, g = h.blk := ⟨_, rfl⟩
  obtain ⟨n, hn'⟩ : ∃ n, n = h.bks.length := ⟨_, rfl⟩
  rw [← hn'] at HC k5
  rw [← hg] at c0 k5 hb
  rw [← hq] at c0 c1 f1 hl ⊢
  have HQ := hide hq
  have c0' := (hq1.facts.1 q 0 hl).trans c0
  have k5' := (hq1.facts.1 g 5 hb).trans k5
  clear H hS hbl hw1 hq hg hn' c0' k5' hN
  cases bl
  · rw [if_pos rfl]
    go_enter Tryz.func175, Tryz.ntmps175
    go_wp2_with fail
    rw [HW.out]
    refine HC.out.mono ?_
    rintro e w2 ⟨rfl, hq2⟩
    have hq3 : Q w w2 := hq1.trans hq2
    have c2 := (hq3.facts.1 q 1 hl).trans c1
    have f2 := (hq3.facts.2.1 q 1 hl).trans f1
    have b2 := (hq2.facts.1 _ 0 hs1).trans b0
    go_wp2_with fail
    go_end0
    have hd := Did.setTop (Did.of_q HH.out hq3) (.inr hk) x1
    exact ⟨rfl, by rw [HQ.out]; exact hd⟩
  · rw [if_neg (by simp)]
    go_enter Tryz.func175, Tryz.ntmps175
    go_wp2_with fail
    rw [HW.out]
    refine HC.out.mono ?_
    rintro e w2 ⟨rfl, hq2⟩
    go_wp2_with fail
    go_end0
    exact TopPost.same HH.out (hq1.trans hq2)
/-! the three methods, whatever the kind -/
theorem room_any (h : Hp) (O : Ok h) : ∃ f rcv, Disp h "mandrel/heap.room" f rcv ∧ ∀ (n align : Int) (w : World), HpR w h → 1 ≤ n → n ≤ 4096 → 1 ≤ align → align ≤ 16 → Calls Tryz.prog f #[rcv, .int .i64 n, .int .i64 align] w (RoomPost (roomM h.m n align) w) := by
  rcases kind_cases O.kind with e | e | e | e
  · refine ⟨_, _, disp_room0 e, fun n al w H a b c d => ?_⟩
    have : roomM h.m n al = scanF (ffP h.size (h.bks.map (·.pb)) n) (h.size - n) al 5000 0 := by unfold roomM; rw [if_pos (show h.m.kind = 0 from e)]; rfl
    rw [this]
    exact ff_room h n al w H O a b c d
  · refine ⟨_, _, disp_room1 e, fun n al w H a b c d => ?_⟩
    have : roomM h.m n al = if upTo h.top al + n ≤ h.size then some (upTo h.top al) else none := by unfold roomM; rw [if_neg (show ¬ h.m.kind = 0 by show ¬ h.kind = 0; omega), if_neg (show ¬ h.m.kind = 3 by show ¬ h.kind = 3; omega)]; rfl
    rw [this]
    exact bump_room h n al w H O (.inl e) a b c d
  · refine ⟨_, _, disp_room2 e, fun n al w H a b c d => ?_⟩
    have : roomM h.m n al = if upTo h.top al + n ≤ h.size then some (upTo h.top al) else none := by unfold roomM; rw [if_neg (show ¬ h.m.kind = 0 by show ¬ h.kind = 0; omega), if_neg (show ¬ h.m.kind = 3 by show ¬ h.kind = 3; omega)]; rfl
    rw [this]
    exact bump_room h n al w H O (.inr e) a b c d
  · refine ⟨_, _, disp_room3 e, fun n al w H a b c d => ?_⟩
    have : roomM h.m n al = if n ≤ h.piece then scanF (poolP h.size (h.bks.map (·.pb)) h.piece al) (h.size - h.piece) h.piece 5000 0 else none := by unfold roomM; rw [if_neg (show ¬ h.m.kind = 0 by show ¬ h.kind = 0; omega), if_pos (show h.m.kind = 3 from e)]; rfl
    rw [this]
    exact pool_room h n al w H O e a b c d
theorem taken_any (h : Hp) (hk : 0 ≤ h.kind ∧ h.kind ≤ 3) : ∃ f rcv, Disp h "mandrel/heap.taken" f rcv ∧ ∀ (x : PB) (A : Option Addr) (c : Nat) (w : World), HpR w h → 0 ≤ x.1 → x.1 ≤ 10000 → x.2.length ≤ 10000 → Calls Tryz.prog f #[rcv, .agg #[.int .i64 x.1, .slice A x.2.length c]] w (TopPost (takenTop h x) w h) := by
  rcases kind_cases hk with e | e | e | e
  · refine ⟨_, _, disp_taken0 e, fun x A c w H _ _ _ => ?_⟩
    rw [show takenTop h x = h.top by unfold takenTop; rw [if_neg (by omega)]]
    exact ff_taken h x A c w H
  · refine ⟨_, _, disp_taken1 e, fun x A c w H a b d => ?_⟩
    rw [show takenTop h x = pend x by unfold takenTop; rw [if_pos (by omega)]]
    exact bump_taken h x A c w H (.inl e) a b d
  · refine ⟨_, _, disp_taken2 e, fun x A c w H a b d => ?_⟩
    rw [show takenTop h x = pend x by unfold takenTop; rw [if_pos (by omega)]]
    exact bump_taken h x A c w H (.inr e) a b d
  · refine ⟨_, _, disp_taken3 e, fun x A c w H _ _ _ => ?_⟩
    rw [show takenTop h x = h.top by unfold takenTop; rw [if_neg (by omega)]]
    exact pool_taken h x A c w H
theorem gone_any (h : Hp) (hk : 0 ≤ h.kind ∧ h.kind ≤ 3) (hN : h.bks.length ≤ 100) : ∃ f rcv, Disp h "mandrel/heap.gone" f rcv ∧ ∀ (x : PB) (A : Option Addr) (c : Nat) (w : World), HpR w h → Calls Tryz.prog f #[rcv, .agg #[.int .i64 x.1, .slice A x.2.length c]] w (TopPost (goneTop h x) w h) := by
  have hn : ∀ x, ¬ h.kind = 2 → goneTop h x = h.top := fun x e => by unfold goneTop; rw [if_neg (fun h => e h.1)]
  rcases kind_cases hk with e | e | e | e
  · refine ⟨_, _, disp_gone0 e, fun x A c w H => ?_⟩
    rw [hn x (by omega)]
    exact ff_gone h x A c w H
  · refine ⟨_, _, disp_gone1 e, fun x A c w H => ?_⟩
    rw [hn x (by omega)]
    exact bump_gone h x A c w H
  · exact ⟨_, _, disp_gone2 e, fun x A c w H => fixed_gone h x A c w H e hN⟩
  · refine ⟨_, _, disp_gone3 e, fun x A c w H => ?_⟩
    rw [hn x (by omega)]
    exact pool_gone h x A c w H
end Go.Proofs.YtdaklffbfadghaaGreat

namespace Go.Proofs.YtdaklffbfadghaaGreat
open Go.RowKit HP
set_option linter.unusedVariables false
def countH (h : Hp) : Hp := { h with calls := h.calls + 1, failIn := if h.failIn = 0 then 0 else h.failIn - 1 }
def CountPost (w : World) (h : Hp) (e : Ending) (w' : World) : Prop := e = .returned (.bool (h.failIn == 1)) ∧ Did w h w' (countH h)
theorem Did.calls {w w1 : World} {h h1 : Hp} (a : Did w h w1 h1) (x : Int) : Did w h (w1.setCell ⟨h1.blk, 8, none⟩ (.int .i64 x)) { h1 with calls := x } := a.set 8 _ rfl rfl rfl rfl rfl rfl rfl
theorem Did.fails {w w1 : World} {h h1 : Hp} (a : Did w h w1 h1) (x : Int) : Did w h (w1.setCell ⟨h1.blk, 9, none⟩ (.int .i64 x)) { h1 with failIn := x } := a.set 9 _ rfl rfl rfl rfl rfl rfl rfl
theorem Did.peaks {w w1 : World} {h h1 : Hp} (a : Did w h w1 h1) (x : Int) : Did w h (w1.setCell ⟨h1.blk, 7, none⟩ (.int .i64 x)) { h1 with peak := x } := a.set 7 _ rfl rfl rfl rfl rfl rfl rfl
theorem Did.lock {w w1 : World} {h h1 : Hp} (a : Did w h w1 h1) (x : Int) : Did w h (w1.setCell ⟨h1.blk, 0, none⟩ (.int .i32 x)) { h1 with mu := x } := a.set 0 _ rfl rfl rfl rfl rfl rfl rfl
theorem counted_any (h : Hp) (w : World) (H : HpR w h) (hc : 0 ≤ h.calls ∧ h.calls ≤ 1000000000) (hf : 0 ≤ h.failIn ∧ h.failIn ≤ 1000) :
    Calls Tryz.prog 61 #[h.ptr] w (CountPost w h) := by
  have c8 : w.cell? ⟨h.blk, 8, none⟩ = some (.int .i64 h.calls) := by rw [H.cell 8]; rfl
  have c9 : w.cell? ⟨h.blk, 9, none⟩ = some (.int .i64 h.failIn) := by rw [H.cell 9]; rfl
  have f8 := H.free 8
  have f9 := H.free 9
  have HP0 : Hid (h.failIn = 0 → CountPost w h (.returned (.bool false)) (w.setCell ⟨h.blk, 8, none⟩ (.int .i64 (h.calls + 1)))) := fun e => by
    refine ⟨by rw [e]; rfl, ?_⟩
    have := (Did.refl H).calls (h.calls + 1)
    unfold countH
    rw [if_pos e]
    rw [e] at this
    exact this
  have HP1 : Hid (∀ b, ¬ h.failIn = 0 → (h.failIn == 1) = b → CountPost w h (.returned (.bool b)) ((w.setCell ⟨h.blk, 8, none⟩ (.int .i64 (h.calls + 1))).setCell ⟨h.blk, 9, none⟩ (.int .i64 (h.failIn - 1)))) := fun b e e1 => by
    refine ⟨by rw [e1], ?_⟩
    have := ((Did.refl H).calls (h.calls + 1)).fails (h.failIn - 1)
    unfold countH
    rw [if_neg e]
    exact this
  unfold Hp.ptr
  obtain ⟨g, hg⟩ : ∃ g, g = h.blk := ⟨_, rfl⟩
  obtain ⟨c, hc'⟩ : ∃ c, c = h.calls := ⟨_, rfl⟩
  obtain ⟨f, hf'⟩ : ∃ f, f = h.failIn := ⟨_, rfl⟩
  rw [← hg] at c8 c9 f8 f9 HP0 HP1 ⊢
  rw [← hc'] at c8 hc HP0 HP1
  rw [← hf'] at c9 hf HP0 HP1
  obtain ⟨hc0, hc1⟩ := hc
  obtain ⟨hf0, hf1⟩ := hf
  clear H hg hc' hf'
  by_cases h0 : f = 0
  · subst h0
    have HP := hide (HP0.out rfl)
    clear HP0 HP1
    go_enter Tryz.func61, Tryz.ntmps61
    go_wp2_with fail
    go_ret
    exact HP.out
  · have h1 : (f == 0) = false := by simpa using h0
    by_cases h2 : f = 1
    · subst h2
      have HP := hide (HP1.out true h0 rfl)
      clear HP0 HP1 h0
      go_enter Tryz.func61, Tryz.ntmps61
      go_wp2_with fail
      go_ret
      exact HP.out
    · have h3 : (f - 1 == 0) = false := by simp; omega
      have HP := hide (HP1.out false h0 (by simpa using h2))
      clear HP0 HP1
      go_enter Tryz.func61, Tryz.ntmps61
      go_wp2_with fail
      go_ret
      exact HP.out
def NotePost (w : World) (h : Hp) (e : Ending) (w' : World) : Prop := e = .returned (.tuple #[]) ∧ Did w h w' { h with peak := max h.peak (used (h.bks.map (·.pb))) }
set_option maxRecDepth 100000 in
theorem note_any (h : Hp) (w : World) (H : HpR w h) (hN : Near h.bks) : Calls Tryz.prog 64 #[h.ptr] w (NotePost w h) := by
  have c7 : w.cell? ⟨h.blk, 7, none⟩ = some (.int .i64 h.peak) := by rw [H.cell 7]; rfl
  have f7 := H.free 7
  have hb := blk_lt H.cells
  have HU : Hid (∀ W, Q w W → Calls Tryz.prog 65 #[.pointer (some ⟨h.blk, 4, none⟩)] W fun e w' => e = .returned (.int .i64 (used (h.bks.map (·.pb)))) ∧ Q W w') := fun W hW => used_any h W (H.q hW) hN
  have HD := hide H
  unfold Hp.ptr
  obtain ⟨g, hg⟩ : ∃ g, g = h.blk := ⟨_, rfl⟩
  obtain ⟨p, hp⟩ : ∃ p, p = h.peak := ⟨_, rfl⟩
  obtain ⟨u, hu⟩ : ∃ u, u = used (h.bks.map (·.pb)) := ⟨_, rfl⟩
  rw [← hg] at c7 f7 hb HU ⊢
  rw [← hp] at c7
  rw [← hu] at HU
  have HP : Hid (∀ W, Q w W → NotePost w h (.returned (.tuple #[])) (W.setCell ⟨g, 7, none⟩ (.int .i64 (max p u)))) := fun W hW => ⟨rfl, by rw [hu, hp, hg]; exact (Did.of_q HD.out hW).peaks _⟩
  clear hg hp hu H HD
  go_enter Tryz.func64, Tryz.ntmps64
  go_wp2_with fail
  refine Ri.made_last (Ri.phi [Ri.isV (.pointer (some ⟨g, 0, none⟩)), Ri.isV (.pointer (some ⟨g, 0, none⟩)), Ri.isV (.pointer (some ⟨g, 0, none⟩)), Ri.isV (.pointer (some ⟨g, 7, none⟩)), Ri.isV (.int .i64 p), Ri.isV (.pointer (some ⟨g, 0, none⟩)), Ri.isV (.pointer (some ⟨g, 0, none⟩)), Ri.isV (.pointer (some ⟨g, 4, none⟩)), Ri.isV (.int .i64 u), Ri.isV (.int .i64 (max p u)), Ri.isV (.pointer (some ⟨g, 0, none⟩)), Ri.isV (.pointer (some ⟨g, 7, none⟩))]) (by kernel_rfl) (by kernel_rfl) rfl (by kernel_rfl) rfl (Ri.phi_mono ?_) ?_ ?_
  · exact ⟨Ri.mono_isV _, Ri.mono_isV _, Ri.mono_isV _, Ri.mono_isV _, Ri.mono_isV _, Ri.mono_isV _, Ri.mono_isV _, Ri.mono_isV _, Ri.mono_isV _, Ri.mono_isV _, Ri.mono_isV _, Ri.mono_isV _, trivial⟩
  · refine Ri.All.cons ?_ (Ri.All.cons ?_ (Ri.All.cons ?_ (Ri.All.cons ?_ (Ri.All.cons ?_ (Ri.All.cons ?_ (Ri.All.cons ?_ (Ri.All.cons ?_ (Ri.All.cons ?_ (Ri.All.cons ?_ (Ri.All.cons ?_ (Ri.All.cons ?_ (Ri.All.nil))))))))))))
    · refine ⟨rfl, fun f W hq hf A hA hB hO => ?_⟩
      have e1 := (hB 0 (by kernel_rfl)).trans (show _ = .pointer (some ⟨g, 0, none⟩) by simp [Act.eval])
      exact Ri.wp_value _ (Ri.run_mv rfl e1) rfl
    · refine ⟨rfl, fun f W hq hf A hA hB hO => ?_⟩
      have e1 := (hB 0 (by kernel_rfl)).trans (show _ = .pointer (some ⟨g, 0, none⟩) by simp [Act.eval])
      exact Ri.wp_value _ (Ri.run_mv rfl e1) rfl
    · refine ⟨rfl, fun f W hq hf A hA hB hO => ?_⟩
      have e1 := (hA 3 1 (by kernel_rfl) (by simp)).trans (show f 1 = _ from hf 1 (by kernel_rfl))
      exact Ri.wp_value _ (Ri.run_nil rfl e1) rfl
    · refine ⟨rfl, fun f W hq hf A hA hB hO => ?_⟩
      have e1 := (hA 4 2 (by kernel_rfl) (by simp)).trans (show f 2 = _ from hf 2 (by kernel_rfl))
      exact Ri.wp_value _ (Ri.run_fld (f := _) rfl e1 Tryz.underlying94 rfl (sz := 0) (by kernel_rfl)) rfl
    · refine ⟨rfl, fun f W hq hf A hA hB hO => ?_⟩
      have e1 := (hA 5 3 (by kernel_rfl) (by simp)).trans (show f 3 = _ from hf 3 (by kernel_rfl))
      exact Ri.wp_value _ (Ri.run_ld1 rfl e1 Tryz.underlying3 rfl ((((Q.refl w).drew.trans hq).facts.1 g 7 hb).trans c7)) rfl
    · refine ⟨rfl, fun f W hq hf A hA hB hO => ?_⟩
      have e1 := (hB 0 (by kernel_rfl)).trans (show _ = .pointer (some ⟨g, 0, none⟩) by simp [Act.eval])
      exact Ri.wp_value _ (Ri.run_mv rfl e1) rfl
    · refine ⟨rfl, fun f W hq hf A hA hB hO => ?_⟩
      have e1 := (hA 7 5 (by kernel_rfl) (by simp)).trans (show f 5 = _ from hf 5 (by kernel_rfl))
      exact Ri.wp_value _ (Ri.run_nil rfl e1) rfl
    · refine ⟨rfl, fun f W hq hf A hA hB hO => ?_⟩
      have e1 := (hA 8 6 (by kernel_rfl) (by simp)).trans (show f 6 = _ from hf 6 (by kernel_rfl))
      exact Ri.wp_value _ (Ri.run_fld (f := _) rfl e1 Tryz.underlying94 rfl (sz := 1) (by kernel_rfl)) rfl
    · refine ⟨rfl, fun f W hq hf A hA hB hO => ?_⟩
      have e1 := (hA 9 7 (by kernel_rfl) (by simp)).trans (show f 7 = _ from hf 7 (by kernel_rfl))
      refine Ri.wp_call #[.pointer (some ⟨g, 4, none⟩)] rfl (by simp [e1]) Tryz.func65 (by kernel_rfl) (by kernel_rfl) ((HU.out W ((Q.refl w).drew.trans hq)).mono ?_)
      rintro e w3 ⟨rfl, hq3⟩
      exact ⟨_, rfl, hq3, rfl⟩
    · refine ⟨rfl, fun f W hq hf A hA hB hO => ?_⟩
      have e1 := (hA 6 4 (by kernel_rfl) (by simp)).trans (show f 4 = _ from hf 4 (by kernel_rfl))
      have e2 := (hA 10 8 (by kernel_rfl) (by simp)).trans (show f 8 = _ from hf 8 (by kernel_rfl))
      exact Ri.wp_value _ (Ri.run_maxi rfl e1 e2) rfl
    · refine ⟨rfl, fun f W hq hf A hA hB hO => ?_⟩
      have e1 := (hA 2 0 (by kernel_rfl) (by simp)).trans (show f 0 = _ from hf 0 (by kernel_rfl))
      exact Ri.wp_value _ (Ri.run_nil rfl e1) rfl
    · refine ⟨rfl, fun f W hq hf A hA hB hO => ?_⟩
      have e1 := (hA 12 10 (by kernel_rfl) (by simp)).trans (show f 10 = _ from hf 10 (by kernel_rfl))
      exact Ri.wp_value _ (Ri.run_fld (f := _) rfl e1 Tryz.underlying94 rfl (sz := 0) (by kernel_rfl)) rfl
  · intro f W hq hf A hAe hA hB
    have hqw : Q w W := hq
    have e1 := (hA 13 11 (by kernel_rfl) (by simp)).trans (show f 11 = _ from hf 11 (by simp))
    have e2 := (hA 11 9 (by kernel_rfl) (by simp)).trans (show f 9 = _ from hf 9 (by simp))
    have HP1 := hide (HP.out W hqw)
    refine Ri.wp_store rfl e1 e2 rfl (by kernel_rfl) rfl (by simp [Value.oneCell']) ((hqw.facts.1 g 7 hb).trans c7) ((hqw.facts.2.1 g 7 hb).trans f7) ?_
    rw [hAe]
    simp only [Ri.acts, Act.put]
    clear hf hA hB hAe e1 e2 hq HP
    go_wp2_with fail
    go_end0
    exact HP1.out
end Go.Proofs.YtdaklffbfadghaaGreat

namespace Go.Proofs.YtdaklffbfadghaaGreat
open Go.RowKit HP
set_option linter.unusedVariables false
theorem insAt_perm {α : Type} (l : List α) (k : Nat) (x : α) : (insAt l k [x]).Perm (x :: l) := by
  unfold insAt
  have h1 : (l.take k ++ ([x] ++ l.drop k)).Perm (x :: (l.take k ++ l.drop k)) := List.perm_middle
  rw [List.take_append_drop] at h1
  exact h1
theorem insAt_mem {α : Type} {l : List α} {k : Nat} {x y : α} : y ∈ insAt l k [x] ↔ y = x ∨ y ∈ l := by rw [(insAt_perm l k x).mem_iff, List.mem_cons]
theorem insAt_map {α β : Type} (f : α → β) (l : List α) (k : Nat) (x : α) : (insAt l k [x]).map f = insAt (l.map f) k [f x] := by
  unfold insAt
  simp [List.map_take, List.map_drop]
theorem insAt_flat (l : List Bk) (k : Nat) (x : Bk) (hk : k ≤ l.length) : (insAt l k [x]).flatMap encBk = insAt (l.flatMap encBk) (k * 2) (encBk x) := by
  have h1 : l.flatMap encBk = (l.take k).flatMap encBk ++ (l.drop k).flatMap encBk := by rw [← List.flatMap_append, List.take_append_drop]
  have h2 : ((l.take k).flatMap encBk).length = k * 2 := by rw [flatMap_length (k := 2) (fun _ => rfl), List.length_take]; omega
  unfold insAt
  rw [h1, List.take_left' h2, List.drop_left' h2]
  simp [List.flatMap_append]
/-- the heap with one more live block -/
def putH (h : Hp) (v : Value) (k : Nat) (x : Bk) : Hp := { h with lv := v, bks := insAt h.bks k [x] }
theorem put_rep {w W : World} {h : Hp} {v : Value} {k : Nat} {x : Bk} (H : HpR w h) (hg : w.grownBy W h.lv.ownBlock) (hv : W.ownsRow 0 111 2 v (h.bks.length + 1) (insAt (h.bks.flatMap encBk) (k * 2) (encBk x))) (hk : k ≤ h.bks.length)
    (hx : w.ownsRow 0 3 1 x.bv x.pb.2.length (intsV x.pb.2)) (hn : ∀ y ∈ h.bks, y.row ≠ x.row) : HpR (W.setCell ⟨h.blk, 5, none⟩ v) (putH h v k x) := by
  have hblk : W.heap[h.blk]? = w.heap[h.blk]? := hg.block _ (blk_lt H.cells) (fun e => H.ne_live e.symm rfl)
  have hcl := hblk.trans H.cells
  have hrow : ∀ y : Bk, w.ownsRow 0 3 1 y.bv y.pb.2.length (intsV y.pb.2) → (W.setCell ⟨h.blk, 5, none⟩ v).ownsRow 0 3 1 y.bv y.pb.2.length (intsV y.pb.2) := fun y hy => by
    obtain ⟨cs, e⟩ := own_blk hy y.own
    have hne : y.row ≠ h.blk := ty_ne e H.cells (by decide)
    refine own_same hy fun b hb => ?_
    cases hb
    rw [heap_setCell_other _ _ _ _ hne]
    exact hg.block _ (hy.lt _ y.own).2 (fun e' => by
      obtain ⟨cs', e2⟩ := own_blk H.live e'.symm
      exact ty_ne e e2 (by decide) rfl)
  refine ⟨?_, ?_, ?_, ?_, ?_, ?_⟩
  · exact heap_setCell_same W h.blk 5 h.cells _ v hcl
  · show (W.setCell ⟨h.blk, 5, none⟩ v).ownsRow 0 _ 2 v (insAt h.bks k [x]).length ((insAt h.bks k [x]).flatMap encBk)
    rw [insAt_len _ _ _ hk, insAt_flat _ _ _ hk]
    refine own_same hv fun b hb => heap_setCell_other _ _ _ _ ?_
    obtain ⟨cs, e⟩ := own_blk hv hb
    exact ty_ne e hcl (by decide)
  · intro y hy
    rcases insAt_mem.1 hy with rfl | hy
    · exact hrow _ hx
    · exact hrow y (H.rows y hy)
  · intro e
    show (W.setCell ⟨h.blk, 5, none⟩ v).heap[h.wb]? = _
    rw [heap_setCell_other _ _ _ _ (H.ne_wb (.inl e)), hg.block _ (blk_lt (H.w1 e)) (fun e' => H.live_wb e'.symm (.inl e) rfl)]
    exact H.w1 e
  · intro e
    show (W.setCell ⟨h.blk, 5, none⟩ v).heap[h.wb]? = _
    rw [heap_setCell_other _ _ _ _ (H.ne_wb (.inr e)), hg.block _ (blk_lt (H.w2 e)) (fun e' => H.live_wb e'.symm (.inr e) rfl)]
    exact H.w2 e
  · show ((insAt h.bks k [x]).map (·.row)).Nodup
    rw [((insAt_perm h.bks k x).map (·.row)).nodup_iff, List.map_cons, List.nodup_cons]
    refine ⟨fun hm => ?_, H.apart⟩
    obtain ⟨y, hy, e⟩ := List.mem_map.1 hm
    exact hn y hy e
def PutMid (w : World) (h : Hp) (k : Nat) (x : Bk) (v : Value) (W : World) : Prop :=
  W.ownsRow 0 111 2 v (h.bks.length + 1) (insAt (h.bks.flatMap encBk) (k * 2) (encBk x)) ∧ w.grownBy W h.lv.ownBlock ∧ ∀ b, v.ownBlock = some b → h.lv.ownBlock = some b ∨ w.heap.size ≤ b
/-- the block's place among the live ones -/
def putK (h : Hp) (x : Bk) : Nat := below (h.bks.map (·.pb)) x.pb.1
def PutPost (w : World) (h : Hp) (x : Bk) (e : Ending) (w' : World) : Prop :=
  e = .returned (.tuple #[]) ∧ ∃ v, HpR w' { putH h v (putK h x) x with top := takenTop h x.pb } ∧ Turn (fun b => h.fp b ∨ b = x.row) w w' ∧ ∀ b, v.ownBlock = some b → h.lv.ownBlock = some b ∨ w.heap.size ≤ b
/-- one block in a new row -/
def OneNew (w0 : World) (cs : Array Value) (t : TypeId) (v : Value) (W : World) : Prop := ∃ b, v = .slice (some ⟨b, 0, none⟩) 1 1 ∧ w0.heap.size ≤ b ∧ W.heap[b]? = some (.cells cs t (0, 0))
theorem mono_oneNew (w0 : World) (cs : Array Value) (t : TypeId) : Ri.Mono (OneNew w0 cs t) := fun v w1 w2 ⟨b, e, hb, hc⟩ hq => ⟨b, e, hb, (hq.below.block b (blk_lt hc)).trans hc⟩
theorem enc_one {l : List Bk} : ∀ u ∈ l.flatMap encBk, u.oneCell' = true := fun u hu => by
  obtain ⟨y, _, hy⟩ := List.mem_flatMap.1 hu
  simp [encBk, Bk.bv] at hy
  rcases hy with rfl | rfl <;> simp [Value.oneCell']
theorem fill_bk (a b : Value) : Instr.fill (fun i => some (i * 2, 2)) (Array.map (fun x => (Value.agg #[Value.int .i64 0, Value.slice none 0 0]).cells[x % (Value.agg #[Value.int .i64 0, Value.slice none 0 0]).cells.size]!) (Array.range (1 * 2))) [(0, Value.agg #[a, b])] = some #[a, b] := by kernel_rfl
set_option maxHeartbeats 4000000 in
set_option maxRecDepth 100000 in
theorem put_any (h : Hp) (y : Bk) (w : World) (H : HpR w h) (hk : 0 ≤ h.kind ∧ h.kind ≤ 3) (hlen : h.bks.length ≤ 99) (hF : Fit h.size (h.bks.map (·.pb))) (hx0 : 0 ≤ y.pb.1) (hx1 : y.pb.1 ≤ 10000) (hn : y.pb.2.length ≤ 10000)
    (hx : w.ownsRow 0 3 1 y.bv y.pb.2.length (intsV y.pb.2)) (hnr : ∀ z ∈ h.bks, z.row ≠ y.row) :
    Calls Tryz.prog 62 #[h.ptr, .agg #[.int .i64 y.pb.1, y.bv]] w (PutPost w h y) := by
  obtain ⟨A, c, hlv, hS, k5, hb⟩ := H.open_
  obtain ⟨kk, hkk⟩ : ∃ kk, kk = putK h y := ⟨_, rfl⟩
  have hkl : kk ≤ h.bks.length := by rw [hkk]; have := below_le (h.bks.map (·.pb)) y.pb.1; rw [List.length_map] at this; exact this
  obtain ⟨x, hxe⟩ : ∃ x, x = y.pb.1 := ⟨_, rfl⟩
  obtain ⟨n, hne⟩ : ∃ n, n = y.pb.2.length := ⟨_, rfl⟩
  obtain ⟨row, hre⟩ : ∃ row, row = y.row := ⟨_, rfl⟩
  obtain ⟨cap, hce⟩ : ∃ cap, cap = y.cap := ⟨_, rfl⟩
  have hbv : y.bv = .slice (some ⟨row, 0, none⟩) n cap := by rw [hne, hre, hce]; rfl
  obtain ⟨fd, hfd⟩ : ∃ fd, fd = has (h.bks.map (·.pb)) x := ⟨_, rfl⟩
  have HFIND : Hid (∀ W, Q w W → Calls Tryz.prog 96 #[.pointer (some ⟨h.blk, 4, none⟩), .int .i64 x] W fun e w' => e = .returned (.tuple #[.int .i64 (kk : Int), .bool fd]) ∧ Q W w') := fun W hW => by
    refine (find_any h x W (H.q hW) (by omega) hF (by omega) (by omega)).mono ?_
    rintro e w' ⟨k, rfl, _, hkb, hq⟩
    rw [hkb (by omega), ← hfd]
    exact ⟨by rw [hkk, hxe]; rfl, hq⟩
  have HINS : Hid (∀ w0, Q w w0 → ∀ W, Q w0 W → ∀ vb, w0.heap.size ≤ vb → W.heap[vb]? = some (.cells #[.int .i64 x, .slice (some ⟨row, 0, none⟩) n cap] 111 (0, 0)) → Calls Tryz.prog 97 #[.slice A h.bks.length c, .int .i64 (kk : Int), .slice (some ⟨vb, 0, none⟩) 1 1] W fun e w' => ∃ v, e = .returned v ∧ PutMid w0 h kk y v w') := fun w0 hw0 W hW0 vb hvb hc => by
    have hW := hw0.trans hW0
    have HW := H.q hW
    have hs0 := hw0.size
    have hown := HW.live
    rw [hlv] at hown
    refine (insert_any A h.bks.length c kk vb (h.bks.flatMap encBk) (.int .i64 x) (.slice (some ⟨row, 0, none⟩) n cap) W hown (by omega) hkl hc (fun e => by
      have := (H.live.lt vb (by rw [hlv]; exact e)).2
      omega) (by simp [Value.oneCell']) (by simp [Value.oneCell']) enc_one).mono ?_
    rintro e w' ⟨v, rfl, hv, hg, hbk⟩
    refine ⟨v, rfl, ?_, ?_, ?_⟩
    · rw [← hbv, hxe] at hv
      exact hv
    · rw [hlv]
      exact grown_trans (grown_of_q hW0) hg
    · intro b hb
      rw [hlv]
      rcases hbk b hb with h1 | h1
      · exact .inl h1
      · exact .inr (Nat.le_trans hW0.size h1)
  have HEND : Hid (∀ w0, Q w w0 → ∀ v W, PutMid w0 h kk y v W → HpR (W.setCell ⟨h.blk, 5, none⟩ v) (putH h v kk y) ∧ W.cell? ⟨h.blk, 5, none⟩ = some (.slice A h.bks.length c) ∧ W.frozen? ⟨h.blk, 5, none⟩ = false ∧ Turn h.fp w (W.setCell ⟨h.blk, 5, none⟩ v) ∧ w.heap.size ≤ W.heap.size ∧ ∃ cs ty fr, v = .slice cs ty fr) := fun w0 hw0 v W ⟨hv, hg, hbk⟩ => by
    have H0 := H.q hw0
    have hblk : W.heap[h.blk]? = w0.heap[h.blk]? := hg.block _ (blk_lt H0.cells) (fun e => H0.ne_live e.symm rfl)
    refine ⟨put_rep H0 hg hv hkl (own_q hx hw0) hnr, ?_, frozen_of_row _ _ _ _ _ (hblk.trans H0.cells), (((Turn.of_q hw0).grown hg (fun b e _ => .inr (.inl e))).set (.inl rfl) _), Nat.le_trans hw0.size hg.size, ?_⟩
    · rw [cell_of_row _ _ _ _ _ _ (hblk.trans H0.cells)]
      show some h.lv = _
      rw [hlv]
    · obtain ⟨A', c', e, _⟩ := own_form hv
      exact ⟨A', _, c', e⟩
  have HTK : Hid (∀ v W, HpR W (putH h v kk y) → ∃ ty u f rcv, W.cell? ⟨h.blk, 6, none⟩ = some (.iface ty u) ∧ (∀ w, (method 299 ty u "mandrel/heap.taken").run Tryz.prog w = .ok (f, rcv) w) ∧ (∀ args w, (callFunc f args).run Tryz.prog w = .ok (.enter f args) w) ∧
      ∀ W', Q W W' → Calls Tryz.prog f #[rcv, .agg #[.int .i64 x, .slice (some ⟨row, 0, none⟩) n cap]] W' (TopPost (takenTop h y.pb) W' (putH h v kk y))) := fun v W HR => by
    obtain ⟨f, rcv, ⟨ty, u, e1, e2, e3⟩, hc⟩ := taken_any (putH h v kk y) hk
    refine ⟨ty, u, f, rcv, ?_, e2, e3, fun W' hW' => ?_⟩
    · have := HR.cell 6
      rw [show (putH h v kk y).blk = h.blk from rfl] at this
      rw [this, ← e1]
      rfl
    · have := hc y.pb (some ⟨row, 0, none⟩) cap W' (HR.q hW') hx0 hx1 hn
      rw [← hxe, ← hne] at this
      exact this
  have HRES : Hid (∀ w0, Q w w0 → ∀ v W W', PutMid w0 h kk y v W → Q (W.setCell ⟨h.blk, 5, none⟩ v) W' → ∀ W2, TopPost (takenTop h y.pb) W' (putH h v kk y) (.returned (.tuple #[])) W2 → PutPost w h y (.returned (.tuple #[])) W2) := fun w0 hw0 v W W' hm hq W2 ht => by
    obtain ⟨h1, h2, h3, h4, h5, h6⟩ := HEND.out w0 hw0 v W hm
    have hbk : ∀ b, v.ownBlock = some b → h.lv.ownBlock = some b ∨ w.heap.size ≤ b := fun b hb => by
      rcases hm.2.2 b hb with h7 | h7
      · exact .inl h7
      · exact .inr (Nat.le_trans hw0.size h7)
    refine ⟨rfl, v, ?_, ?_, hbk⟩
    · rw [← hkk]
      exact ht.2.rep
    · refine ((h4.q hq).wide (fun i _ e => .inl e)).trans ht.2.turn fun i hi hf => ?_
      rcases hf with hf | hf | ⟨z, hz, hf⟩ | hf
      · exact .inl (.inl hf)
      · rcases hbk i hf with h7 | h7
        · exact .inl (.inr (.inl h7))
        · omega
      · rcases insAt_mem.1 hz with rfl | hz
        · exact .inr hf.symm
        · exact .inl (.inr (.inr (.inl ⟨z, hz, hf⟩)))
      · exact .inl (.inr (.inr (.inr hf)))
  have HLV : Hid (∀ b, h.lv.ownBlock = some b → b < w.heap.size) := fun b hb => (H.live.lt b hb).2
  obtain ⟨g, hg⟩ : ∃ g, g = h.blk := ⟨_, rfl⟩
  obtain ⟨nl, hnl⟩ : ∃ nl, nl = h.bks.length := ⟨_, rfl⟩
  obtain ⟨lv0, hlv0⟩ : ∃ lv0, lv0 = Value.slice A nl c := ⟨_, rfl⟩
  rw [← hnl] at k5 HINS HEND
  rw [← hlv0] at k5 HINS HEND
  unfold Hp.ptr
  rw [hbv, ← hxe]
  rw [← hg] at k5 hb HFIND HEND HTK HRES ⊢
  obtain ⟨w1, hw1⟩ : ∃ w1, w.alloc (.cells #[.int .i64 x, .slice (some ⟨row, 0, none⟩) n cap] 111) = w1 := ⟨_, rfl⟩
  have hq1 : Q w w1 := by rw [← hw1]; exact (Q.refl w).alloc _
  have b0 : w1.heap[w.heap.size]? = some (.cells #[.int .i64 x, .slice (some ⟨row, 0, none⟩) n cap] 111 (0, 0)) := by rw [← hw1]; exact heap_alloc_new w _
  have c0 : w1.cell? ⟨w.heap.size, 0, none⟩ = some (.int .i64 x) := by rw [← hw1, cell_new]; rfl
  have hs1 : w.heap.size < w1.heap.size := by rw [← hw1]; simp
  have HW := hide hw1
  have HF1 : Hid (∀ W, Q w1 W → Calls Tryz.prog 96 #[.pointer (some ⟨g, 4, none⟩), .int .i64 x] W fun e w' => e = .returned (.tuple #[.int .i64 (kk : Int), .bool fd]) ∧ Q W w') := fun W hW => HFIND.out W (hq1.trans hW)
  clear hw1 hlv0 hg hnl H hS hF hx hnr hkk hxe hne hre hce hbv hfd hlv HFIND hkl hlen hk hx0 hx1 hn
  have hbg := hb
  go_enter Tryz.func62, Tryz.ntmps62
  go_wp2_with fail
  rw [HW.out]
  have hbg1 : g < w1.heap.size := by omega
  have hxc := ext_cell
  refine wp_region_ext (by kernel_rfl) (by kernel_rfl) ?_
  repeat (go_big_quiet_step (((go_at_call 96; exact ext_call (HF1.out _ (q_ext _ _))))))
  clear hxc
  refine wpQuiet_nil ?_
  intro w2 hww2
  have hqw2 := q_of_ext hww2
  clear hww2
  obtain ⟨hcw2, hfw2, hzw2⟩ := hqw2.facts
  try simp at hzw2
  try have hs0w2 : w.heap.size < w2.heap.size := by omega
  try have hs1w2 : w.heap.size + 1 < w2.heap.size := by omega
  have k5b := (hqw2.facts.1 g 5 hbg1).trans ((hq1.facts.1 g 5 hbg).trans k5)
  have b2 := (hqw2.below.block _ hs1).trans b0
  have hq02 := hq1.trans hqw2
  have HQ02 := hide hq02
  have HB2 := hide b2
  have K5b := hide k5b
  have hg2 : g < w2.heap.size := by have := hqw2.size; omega
  have hs2 : w.heap.size ≤ w2.heap.size := hq02.size
  clear hcw2 hfw2 k5b b2 hq02 k5 b0 c0 hqw2 hq1 HF1 HW
  go_wp2_with fail
  refine Ri.called_last 9 [0, 10, 11, 12] (Ri.phi [Ri.isV (.pointer (some ⟨g, 0, none⟩)), Ri.isV (.pointer (some ⟨g, 0, none⟩)), Ri.isV (.pointer (some ⟨g, 0, none⟩)), Ri.isV (.pointer (some ⟨g, 4, none⟩)), Ri.isV (.pointer (some ⟨g, 5, none⟩)), Ri.isV (lv0), Ri.isV (.int .i64 (kk : Int)), Ri.isV (.agg #[.int .i64 x, .slice (some ⟨row, 0, none⟩) n cap]), OneNew w2 #[.int .i64 x, .slice (some ⟨row, 0, none⟩) n cap] 111, fun _ _ => True, Ri.isV (.pointer (some ⟨g, 0, none⟩)), Ri.isV (.pointer (some ⟨g, 4, none⟩)), Ri.isV (.pointer (some ⟨g, 5, none⟩))]) (PutMid w2 h kk y) (by kernel_rfl) (by kernel_rfl) rfl (by kernel_rfl) rfl (by decide) (by kernel_rfl) (Ri.phi_mono ?_) ?_ ?_ ?_
  · exact ⟨Ri.mono_isV _, Ri.mono_isV _, Ri.mono_isV _, Ri.mono_isV _, Ri.mono_isV _, Ri.mono_isV _, Ri.mono_isV _, Ri.mono_isV _, mono_oneNew _ _ _, fun _ _ _ h _ => h, Ri.mono_isV _, Ri.mono_isV _, Ri.mono_isV _, trivial⟩
  · intro i v w1 w2 hk hv
    match i, hk, hv with
    | 0, _, hv => exact hv
    | 1, hk, _ => exact absurd hk (by decide)
    | 2, hk, _ => exact absurd hk (by decide)
    | 3, hk, _ => exact absurd hk (by decide)
    | 4, hk, _ => exact absurd hk (by decide)
    | 5, hk, _ => exact absurd hk (by decide)
    | 6, hk, _ => exact absurd hk (by decide)
    | 7, hk, _ => exact absurd hk (by decide)
    | 8, hk, _ => exact absurd hk (by decide)
    | 9, hk, _ => exact absurd hk (by decide)
    | 10, _, hv => exact hv
    | 11, _, hv => exact hv
    | 12, _, hv => exact hv
    | i + 13, hk, _ => exact absurd hk (by unfold Ri.kindOf; rw [if_neg (by omega), if_neg (by first | (simp; done) | (simp; omega))]; decide)
  · refine Ri.All.cons ?_ (Ri.All.cons ?_ (Ri.All.cons ?_ (Ri.All.cons ?_ (Ri.All.cons ?_ (Ri.All.cons ?_ (Ri.All.cons ?_ (Ri.All.cons ?_ (Ri.All.cons ?_ (Ri.All.cons ?_ (Ri.All.cons ?_ (Ri.All.cons ?_ (Ri.All.cons ?_ (Ri.All.nil)))))))))))))
    · refine Ri.StepK.p (by decide) ⟨rfl, fun f W hf A hA hB => ?_⟩
      have e1 := (hB 0 (by kernel_rfl)).trans (show _ = .pointer (some ⟨g, 0, none⟩) by simp [Act.eval])
      exact Ri.wp_pure _ (Ri.run_mv rfl e1) rfl
    · refine Ri.StepK.g (by decide) ⟨rfl, fun f W hq hf A hA hB hO => ?_⟩
      have e1 := (hB 0 (by kernel_rfl)).trans (show _ = .pointer (some ⟨g, 0, none⟩) by simp [Act.eval])
      exact Ri.wp_value _ (Ri.run_mv rfl e1) rfl
    · refine Ri.StepK.g (by decide) ⟨rfl, fun f W hq hf A hA hB hO => ?_⟩
      have e1 := (hA 16 1 (by kernel_rfl) (by simp)).trans (show f 1 = _ from hf 1 (by kernel_rfl))
      exact Ri.wp_value _ (Ri.run_nil rfl e1) rfl
    · refine Ri.StepK.g (by decide) ⟨rfl, fun f W hq hf A hA hB hO => ?_⟩
      have e1 := (hA 17 2 (by kernel_rfl) (by simp)).trans (show f 2 = _ from hf 2 (by kernel_rfl))
      exact Ri.wp_value _ (Ri.run_fld (f := _) rfl e1 Tryz.underlying94 rfl (sz := 1) (by kernel_rfl)) rfl
    · refine Ri.StepK.g (by decide) ⟨rfl, fun f W hq hf A hA hB hO => ?_⟩
      have e1 := (hA 18 3 (by kernel_rfl) (by simp)).trans (show f 3 = _ from hf 3 (by kernel_rfl))
      exact Ri.wp_value _ (Ri.run_fld (f := _) rfl e1 Tryz.underlying83 rfl (sz := 0) (by kernel_rfl)) rfl
    · refine Ri.StepK.g (by decide) ⟨rfl, fun f W hq hf A hA hB hO => ?_⟩
      have e1 := (hA 19 4 (by kernel_rfl) (by simp)).trans (show f 4 = _ from hf 4 (by kernel_rfl))
      exact Ri.wp_value _ (Ri.run_ld1 rfl e1 Tryz.underlying81 rfl ((((Q.refl w2).drew.trans hq).facts.1 g 5 hg2).trans K5b.out)) rfl
    · refine Ri.StepK.g (by decide) ⟨rfl, fun f W hq hf A hA hB hO => ?_⟩
      have e1 := (hB 4 (by kernel_rfl)).trans (show _ = .int .i64 (kk : Int) by simp [Act.eval])
      exact Ri.wp_value _ (Ri.run_mv rfl e1) rfl
    · refine Ri.StepK.g (by decide) ⟨rfl, fun f W hq hf A hA hB hO => ?_⟩
      have e1 := (hB 3 (by kernel_rfl)).trans (show _ = .pointer (some ⟨w.heap.size, 0, none⟩) by simp [Act.eval])
      exact Ri.wp_value _ (Ri.run_ldrow rfl e1 ((((Q.refl w2).drew.trans hq).below.block _ (blk_lt HB2.out)).trans HB2.out) Tryz.underlying111 rfl (by kernel_rfl)) rfl
    · refine Ri.StepK.g (by decide) ⟨rfl, fun f W hq hf A hA hB hO => ?_⟩
      have e1 := (hA 22 7 (by kernel_rfl) (by simp)).trans (show f 7 = _ from hf 7 (by kernel_rfl))
      obtain ⟨i, hi, hz, hsz, hby⟩ := info_parts (show (Tryz.prog.info? 111).map (fun i => (i.zero, i.size, i.bytes)) = some (some (.agg #[.int .i64 0, .slice none 0 0]), 2, 32) by kernel_rfl)
      refine wp_buildSlice 81 111 1 _ rfl #[.int .i64 x, .slice (some ⟨row, 0, none⟩) n cap] i _ Tryz.underlying81 hi hz (by rw [hsz]; decide) (by rw [hsz]; decide) ?_ ⟨_, rfl, (Q.refl W).alloc _, W.heap.size, rfl, hq.size, heap_alloc_new W _⟩
      rw [hsz]
      simp only [List.map_toArray, List.map_cons, List.map_nil, e1]
      exact fill_bk _ _
    · refine Ri.StepK.w (by decide) ⟨rfl, fun f W hq hf A hA hB => ?_⟩
      have e1 := (hA 20 5 (by kernel_rfl) (by simp)).trans (show f 5 = _ from hf 5 (by kernel_rfl))
      have e2 := (hA 21 6 (by kernel_rfl) (by simp)).trans (show f 6 = _ from hf 6 (by kernel_rfl))
      obtain ⟨vb, hv, hvb, hvc⟩ : OneNew w2 #[.int .i64 x, .slice (some ⟨row, 0, none⟩) n cap] 111 (f 8) W := hf 8 (by kernel_rfl)
      have e3 := (hA 23 8 (by kernel_rfl) (by simp)).trans hv
      refine Ri.wp_callW #[lv0, .int .i64 (kk : Int), .slice (some ⟨vb, 0, none⟩) 1 1] rfl (by simp [e1, e2, e3]) Tryz.func97 (by kernel_rfl) (by kernel_rfl) ?_
      exact HINS.out w2 HQ02.out W ((Q.refl w2).drew.trans hq) vb hvb hvc
    · refine Ri.StepK.p (by decide) ⟨rfl, fun f W hf A hA hB => ?_⟩
      have e1 := (hA 15 0 (by kernel_rfl) (by simp)).trans (show f 0 = _ from hf 0 (by kernel_rfl) (by decide))
      exact Ri.wp_pure _ (Ri.run_nil rfl e1) rfl
    · refine Ri.StepK.p (by decide) ⟨rfl, fun f W hf A hA hB => ?_⟩
      have e1 := (hA 25 10 (by kernel_rfl) (by simp)).trans (show f 10 = _ from hf 10 (by kernel_rfl) (by decide))
      exact Ri.wp_pure _ (Ri.run_fld (f := _) rfl e1 Tryz.underlying94 rfl (sz := 1) (by kernel_rfl)) rfl
    · refine Ri.StepK.p (by decide) ⟨rfl, fun f W hf A hA hB => ?_⟩
      have e1 := (hA 26 11 (by kernel_rfl) (by simp)).trans (show f 11 = _ from hf 11 (by kernel_rfl) (by decide))
      exact Ri.wp_pure _ (Ri.run_fld (f := _) rfl e1 Tryz.underlying83 rfl (sz := 0) (by kernel_rfl)) rfl
  · intro f W hP hf A hAe hA hB
    obtain ⟨hR, c5, f5, hT, hsW, ⟨sa, sn, sc, hvs⟩⟩ := HEND.out w2 HQ02.out _ W hP
    obtain ⟨v, hv⟩ : ∃ v, v = f 9 := ⟨_, rfl⟩
    rw [← hv] at hP hR hT hvs
    have e1 := (hA 27 12 (by kernel_rfl) (by simp)).trans (show f 12 = _ from hf 12 (by simp) (by decide))
    have e2 := (hA 24 9 (by kernel_rfl) (by simp)).trans hv.symm
    refine Ri.wp_store rfl e1 e2 rfl (by kernel_rfl) (by rw [hvs]; rfl) (by rw [hvs]; simp [Value.oneCell']) c5 f5 ?_
    obtain ⟨ty, u, fT, rcv, k6, hmeth, hent, hTK⟩ := HTK.out v _ hR
    have hb3 : (W.setCell ⟨g, 5, none⟩ v).heap[w.heap.size]? = some (.cells #[.int .i64 x, .slice (some ⟨row, 0, none⟩) n cap] 111 (0, 0)) := by
      rw [heap_setCell_other _ _ _ _ (show w.heap.size ≠ g by omega), hP.2.1.block _ hs0w2 (fun e => by have := HLV.out _ e.symm; omega)]
      exact HB2.out
    obtain ⟨w3, hw3⟩ : ∃ w3, w3 = W.setCell ⟨g, 5, none⟩ v := ⟨_, rfl⟩
    have HRES3 : Hid (∀ W', Q w3 W' → ∀ W2, TopPost (takenTop h y.pb) W' (putH h v kk y) (.returned (.tuple #[])) W2 → PutPost w h y (.returned (.tuple #[])) W2) := fun W' hW' W2 ht => HRES.out w2 HQ02.out v W W' hP (by rw [← hw3]; exact hW') W2 ht
    rw [← hw3] at k6 hTK hb3 ⊢
    have K6 := hide k6
    have HB3 := hide hb3
    have HM := hide hmeth
    have HE := hide hent
    have HT3 := hide hTK
    have hg3 : g < w3.heap.size := by
      have h1 := hP.2.1.size
      have h2 : w3.heap.size = W.heap.size := by rw [hw3]; simp [World.setCell]
      omega
    rw [hAe]
    simp only [Ri.acts, Act.put]
    clear hf hA hB hAe e1 e2 hP hR hT hvs hv c5 f5 k6 hb3 hmeth hent hTK hw3 HTK HEND HRES HINS
    go_wp2_with fail
    refine Ri.made_last (Ri.phi [Ri.isV (.pointer (some ⟨g, 0, none⟩)), Ri.isV (.pointer (some ⟨g, 0, none⟩)), Ri.isV (.pointer (some ⟨g, 6, none⟩)), Ri.isV (.iface ty u), Ri.isV (.agg #[.int .i64 x, .slice (some ⟨row, 0, none⟩) n cap])]) (by kernel_rfl) (by kernel_rfl) rfl (by kernel_rfl) rfl (Ri.phi_mono ?_) ?_ ?_
    · exact ⟨Ri.mono_isV _, Ri.mono_isV _, Ri.mono_isV _, Ri.mono_isV _, Ri.mono_isV _, trivial⟩
    · refine Ri.All.cons ?_ (Ri.All.cons ?_ (Ri.All.cons ?_ (Ri.All.cons ?_ (Ri.All.cons ?_ (Ri.All.nil)))))
      · refine ⟨rfl, fun f W hq hf A hA hB hO => ?_⟩
        have e1 := (hB 0 (by kernel_rfl)).trans (show _ = .pointer (some ⟨g, 0, none⟩) by simp [Act.eval])
        exact Ri.wp_value _ (Ri.run_mv rfl e1) rfl
      · refine ⟨rfl, fun f W hq hf A hA hB hO => ?_⟩
        have e1 := (hA 28 0 (by kernel_rfl) (by simp)).trans (show f 0 = _ from hf 0 (by kernel_rfl))
        exact Ri.wp_value _ (Ri.run_nil rfl e1) rfl
      · refine ⟨rfl, fun f W hq hf A hA hB hO => ?_⟩
        have e1 := (hA 29 1 (by kernel_rfl) (by simp)).trans (show f 1 = _ from hf 1 (by kernel_rfl))
        exact Ri.wp_value _ (Ri.run_fld (f := _) rfl e1 Tryz.underlying94 rfl (sz := 0) (by kernel_rfl)) rfl
      · refine ⟨rfl, fun f W hq hf A hA hB hO => ?_⟩
        have e1 := (hA 30 2 (by kernel_rfl) (by simp)).trans (show f 2 = _ from hf 2 (by kernel_rfl))
        exact Ri.wp_value _ (Ri.run_ld1 rfl e1 Tryz.underlying92 rfl ((((Q.refl w3).drew.trans hq).facts.1 g 6 hg3).trans K6.out)) rfl
      · refine ⟨rfl, fun f W hq hf A hA hB hO => ?_⟩
        have e1 := (hB 3 (by kernel_rfl)).trans (show _ = .pointer (some ⟨w.heap.size, 0, none⟩) by simp [Act.eval])
        exact Ri.wp_value _ (Ri.run_ldrow rfl e1 ((((Q.refl w3).drew.trans hq).below.block _ (blk_lt HB3.out)).trans HB3.out) Tryz.underlying111 rfl (by kernel_rfl)) rfl
    · intro f W hq hf A hAe hA hB
      have hqw : Q w3 W := hq
      have e1 := (hA 31 3 (by kernel_rfl) (by simp)).trans (show f 3 = _ from hf 3 (by simp))
      have e2 := (hA 32 4 (by kernel_rfl) (by simp)).trans (show f 4 = _ from hf 4 (by simp))
      refine Ri.wp_invoke rfl e1 (by kernel_rfl) HM.out HE.out #[.agg #[.int .i64 x, .slice (some ⟨row, 0, none⟩) n cap]] (by simp [e2]) ((HT3.out W hqw).mono ?_)
      rintro e W2 ⟨rfl, hd⟩
      refine ⟨_, rfl, ?_⟩
      have HEN := hide (HRES3.out W hqw W2 ⟨rfl, hd⟩)
      rw [hAe]
      simp only [Ri.acts, Act.put]
      clear hf hA hB hAe e1 e2 hq hqw hd HRES3 HM HE HT3
      go_wp2_with fail
      go_end0
      exact HEN.out
end Go.Proofs.YtdaklffbfadghaaGreat

namespace Go.Proofs.YtdaklffbfadghaaGreat
open Go.RowKit HP
set_option linter.unusedVariables false
theorem delAt_flat (l : List Bk) (k : Nat) (hk : k < l.length) : (delAt l k 1).flatMap encBk = delAt (l.flatMap encBk) (k * 2) 2 := by
  have h1 : ∀ m, m ≤ l.length → l.flatMap encBk = (l.take m).flatMap encBk ++ (l.drop m).flatMap encBk ∧ ((l.take m).flatMap encBk).length = m * 2 := fun m hm =>
    ⟨by rw [← List.flatMap_append, List.take_append_drop], by rw [flatMap_length (k := 2) (fun _ => rfl), List.length_take]; omega⟩
  obtain ⟨a1, a2⟩ := h1 k (by omega)
  obtain ⟨b1, b2⟩ := h1 (k + 1) (by omega)
  unfold delAt
  rw [List.flatMap_append]
  congr 1
  · rw [a1, List.take_left' a2]
  · rw [b1, show k * 2 + 2 = (k + 1) * 2 by omega, List.drop_left' b2]
theorem delAt_mem {α : Type} {l : List α} {k m : Nat} {y : α} (h : y ∈ delAt l k m) : y ∈ l := by
  unfold delAt at h
  rcases List.mem_append.1 h with h | h
  · exact List.mem_of_mem_take h
  · exact List.mem_of_mem_drop h
theorem delAt_map {α β : Type} (f : α → β) (l : List α) (k m : Nat) : (delAt l k m).map f = delAt (l.map f) k m := by
  unfold delAt
  simp [List.map_take, List.map_drop]
theorem delAt_sub {α : Type} (l : List α) (k m : Nat) : (delAt l k m).Sublist l := by
  have : l = l.take k ++ l.drop k := (List.take_append_drop k l).symm
  conv => rhs; rw [this]
  refine List.Sublist.append (List.Sublist.refl _) ?_
  rw [← List.drop_drop]
  exact List.drop_sublist _ _
/-- the heap without a live block -/
def delH (h : Hp) (v : Value) (k : Nat) : Hp := { h with lv := v, bks := delAt h.bks k 1 }
def DelMid (w : World) (h : Hp) (k : Nat) (v : Value) (W : World) : Prop :=
  W.ownsRow 0 111 2 v (h.bks.length - 1) (delAt (h.bks.flatMap encBk) (k * 2) 2) ∧ w.grownBy W h.lv.ownBlock ∧ v.ownBlock = h.lv.ownBlock
theorem del_rep {w W : World} {h : Hp} {v : Value} {k : Nat} (H : HpR w h) (hg : w.grownBy W h.lv.ownBlock) (hv : W.ownsRow 0 111 2 v (h.bks.length - 1) (delAt (h.bks.flatMap encBk) (k * 2) 2)) (hk : k < h.bks.length) : HpR (W.setCell ⟨h.blk, 5, none⟩ v) (delH h v k) := by
  have hblk : W.heap[h.blk]? = w.heap[h.blk]? := hg.block _ (blk_lt H.cells) (fun e => H.ne_live e.symm rfl)
  have hcl := hblk.trans H.cells
  refine ⟨?_, ?_, ?_, ?_, ?_, ?_⟩
  · exact heap_setCell_same W h.blk 5 h.cells _ v hcl
  · show (W.setCell ⟨h.blk, 5, none⟩ v).ownsRow 0 _ 2 v (delAt h.bks k 1).length ((delAt h.bks k 1).flatMap encBk)
    rw [delAt_len _ _ _ (by omega), delAt_flat _ _ hk]
    refine own_same hv fun b hb => heap_setCell_other _ _ _ _ ?_
    obtain ⟨cs, e⟩ := own_blk hv hb
    exact ty_ne e hcl (by decide)
  · intro y hy
    have hy := H.rows y (delAt_mem hy)
    obtain ⟨cs, e⟩ := own_blk hy y.own
    have hne : y.row ≠ h.blk := ty_ne e H.cells (by decide)
    refine own_same hy fun b hb => ?_
    cases hb
    rw [heap_setCell_other _ _ _ _ hne]
    exact hg.block _ (hy.lt _ y.own).2 (fun e' => by
      obtain ⟨cs', e2⟩ := own_blk H.live e'.symm
      exact ty_ne e e2 (by decide) rfl)
  · intro e
    show (W.setCell ⟨h.blk, 5, none⟩ v).heap[h.wb]? = _
    rw [heap_setCell_other _ _ _ _ (H.ne_wb (.inl e)), hg.block _ (blk_lt (H.w1 e)) (fun e' => H.live_wb e'.symm (.inl e) rfl)]
    exact H.w1 e
  · intro e
    show (W.setCell ⟨h.blk, 5, none⟩ v).heap[h.wb]? = _
    rw [heap_setCell_other _ _ _ _ (H.ne_wb (.inr e)), hg.block _ (blk_lt (H.w2 e)) (fun e' => H.live_wb e'.symm (.inr e) rfl)]
    exact H.w2 e
  · show ((delAt h.bks k 1).map (·.row)).Nodup
    rw [delAt_map]
    exact H.apart.sublist (delAt_sub _ _ _)
/-- a store into a block of the call's own that is not the heap's -/
theorem Did.mine {w w1 : World} {h h1 : Hp} (a : Did w h w1 h1) (b : Nat) (hb : w.heap.size ≤ b) (hn : ¬ h1.fp b) (o : Nat) (u : Value) : Did w h (w1.setCell ⟨b, o, none⟩ u) h1 :=
  ⟨a.rep.same fun i hi => heap_setCell_other _ _ _ _ (fun e => hn (by have e : i = b := e; rw [← e]; exact hi)), ⟨a.turn.os, a.turn.tape, a.turn.output, by simp [World.setCell]; exact a.turn.size, fun i hi hn' => (heap_setCell_other _ _ _ _ (show i ≠ b by omega)).trans (a.turn.block i hi hn')⟩, a.blk, a.fp⟩
def TakePost (w : World) (h : Hp) (k : Nat) (x : Bk) (e : Ending) (w' : World) : Prop :=
  e = .returned (.agg #[.int .i64 x.pb.1, x.bv]) ∧ ∃ v, Did w h w' { delH h v k with top := goneTop (delH h v k) x.pb }
set_option maxHeartbeats 4000000 in
set_option maxRecDepth 100000 in
theorem take_any (h : Hp) (k : Nat) (y : Bk) (w : World) (H : HpR w h) (hkd : 0 ≤ h.kind ∧ h.kind ≤ 3) (hlen : h.bks.length ≤ 100) (hF : Fit h.size (h.bks.map (·.pb))) (hy : h.bks[k]? = some y) :
    Calls Tryz.prog 127 #[h.ptr, .int .i64 y.pb.1] w (TakePost w h k y) := by
  obtain ⟨A, c, hlv, hS, k5, hb⟩ := H.open_
  have hkl : k < h.bks.length := (List.getElem?_eq_some_iff.1 hy).1
  have hyp : (h.bks.map (·.pb))[k]? = some y.pb := by rw [List.getElem?_map, hy]; rfl
  obtain ⟨hy0, hy1, hy2⟩ := hF.inn y.pb (List.mem_of_getElem? hyp)
  have hsz := hF.sz.2
  unfold pend at hy2
  have hbel : below (h.bks.map (·.pb)) y.pb.1 = k := below_eq hF _ k (by rw [List.length_map]; omega) (fun j x hj hx => (hF.lt hx hyp hj).1) (fun j x hj hx => by
    rcases Nat.lt_or_eq_of_le hj with h3 | h3
    · have := (hF.lt hyp hx h3).1
      omega
    · subst h3
      rw [hyp] at hx
      cases hx
      exact Int.le_refl _)
  obtain ⟨x, hxe⟩ : ∃ x, x = y.pb.1 := ⟨_, rfl⟩
  obtain ⟨n, hne⟩ : ∃ n, n = y.pb.2.length := ⟨_, rfl⟩
  obtain ⟨row, hre⟩ : ∃ row, row = y.row := ⟨_, rfl⟩
  obtain ⟨cap, hce⟩ : ∃ cap, cap = y.cap := ⟨_, rfl⟩
  have hbv : y.bv = .slice (some ⟨row, 0, none⟩) n cap := by rw [hne, hre, hce]; rfl
  have HFIND : Hid (∀ W, Q w W → Calls Tryz.prog 96 #[.pointer (some ⟨h.blk, 4, none⟩), .int .i64 x] W fun e w' => e = .returned (.tuple #[.int .i64 (k : Int), .bool true]) ∧ Q W w') := fun W hW => by
    refine (find_any h x W (H.q hW) (by omega) hF (by omega) (by omega)).mono ?_
    rintro e w' ⟨k', rfl, _, hkb, hq⟩
    have hh : has (h.bks.map (·.pb)) x = true := by
      rw [has_iff hF]
      exact ⟨y.pb, by rw [hxe, hbel]; exact hyp, hxe.symm⟩
    rw [hkb (by omega), hxe, hbel, ← hxe, hh]
    exact ⟨rfl, hq⟩
  have HDEL : Hid (∀ w0, Q w w0 → Calls Tryz.prog 139 #[.slice A h.bks.length c, .int .i64 (k : Int), .int .i64 ((k : Int) + 1)] w0 fun e w' => ∃ v, e = .returned v ∧ DelMid w0 h k v w') := fun w0 hw0 => by
    have hown := (H.q hw0).live
    rw [hlv] at hown
    refine (delete_any A h.bks.length c k (h.bks.flatMap encBk) w0 hown (by omega) hkl enc_one).mono ?_
    rintro e w' ⟨v, rfl, hvb, hv, hg⟩
    exact ⟨v, rfl, hv, by rw [hlv]; exact hg, by rw [hlv]; exact hvb⟩
  have HEND : Hid (∀ w0, Q w w0 → ∀ v W, DelMid w0 h k v W → HpR (W.setCell ⟨h.blk, 5, none⟩ v) (delH h v k) ∧ W.cell? ⟨h.blk, 5, none⟩ = some (.slice A h.bks.length c) ∧ W.frozen? ⟨h.blk, 5, none⟩ = false ∧ Did w h (W.setCell ⟨h.blk, 5, none⟩ v) (delH h v k) ∧ w0.heap.size ≤ W.heap.size ∧ ∃ cs ty fr, v = .slice cs ty fr) := fun w0 hw0 v W ⟨hv, hg, hbk⟩ => by
    have H0 := H.q hw0
    have hblk : W.heap[h.blk]? = w0.heap[h.blk]? := hg.block _ (blk_lt H0.cells) (fun e => H0.ne_live e.symm rfl)
    have hR := del_rep H0 hg hv hkl
    refine ⟨hR, ?_, frozen_of_row _ _ _ _ _ (hblk.trans H0.cells), ⟨hR, (((Turn.of_q hw0).grown hg (fun b e _ => .inr (.inl e))).set (.inl rfl) _), rfl, fun b hb => .inl ?_⟩, hg.size, ?_⟩
    · rw [cell_of_row _ _ _ _ _ _ (hblk.trans H0.cells)]
      show some h.lv = _
      rw [hlv]
    · rcases hb with hf | hf | ⟨z, hz, hf⟩ | hf
      · exact .inl hf
      · exact .inr (.inl (hbk.symm.trans hf))
      · exact .inr (.inr (.inl ⟨z, delAt_mem hz, hf⟩))
      · exact .inr (.inr (.inr hf))
    · obtain ⟨A', c', e, _⟩ := own_form hv
      exact ⟨A', _, c', e⟩
  have HGN : Hid (∀ v W, HpR W (delH h v k) → ∃ ty u f rcv, W.cell? ⟨h.blk, 6, none⟩ = some (.iface ty u) ∧ (∀ w, (method 299 ty u "mandrel/heap.gone").run Tryz.prog w = .ok (f, rcv) w) ∧ (∀ args w, (callFunc f args).run Tryz.prog w = .ok (.enter f args) w) ∧
      ∀ W', Q W W' → Calls Tryz.prog f #[rcv, .agg #[.int .i64 x, .slice (some ⟨row, 0, none⟩) n cap]] W' (TopPost (goneTop (delH h v k) y.pb) W' (delH h v k))) := fun v W HR => by
    obtain ⟨f, rcv, ⟨ty, u, e1, e2, e3⟩, hc⟩ := gone_any (delH h v k) hkd (by show (delAt h.bks k 1).length ≤ 100; rw [delAt_len _ _ _ (by omega)]; omega)
    refine ⟨ty, u, f, rcv, ?_, e2, e3, fun W' hW' => ?_⟩
    · have := HR.cell 6
      rw [show (delH h v k).blk = h.blk from rfl] at this
      rw [this, ← e1]
      rfl
    · have := hc y.pb (some ⟨row, 0, none⟩) cap W' (HR.q hW')
      rw [← hxe, ← hne] at this
      exact this
  obtain ⟨gl, o1, y', hA, hgl, hy', x1, x2⟩ := hS.bk k hkl
  rw [hy] at hy'
  cases hy'
  subst hA
  rw [← hxe] at x1
  rw [← hre, ← hne, ← hce] at x2
  have HLT : Hid (∀ b, h.fp b → b < w.heap.size) := H.lt
  have HLV : Hid (∀ b, h.lv.ownBlock = some b → b < w.heap.size) := fun b hb => (H.live.lt b hb).2
  have HRES : Hid (∀ v W, v.ownBlock = h.lv.ownBlock → Did w h W { delH h v k with top := goneTop (delH h v k) y.pb } → ∀ u1 u2, TakePost w h k y (.returned (.agg #[.int .i64 x, .slice (some ⟨row, 0, none⟩) n cap])) ((W.setCell ⟨w.heap.size, 0, none⟩ u1).setCell ⟨w.heap.size, 1, none⟩ u2)) := fun v W hvb hd u1 u2 => ⟨by rw [hxe, hbv], v, (hd.mine w.heap.size (Nat.le_refl _) (fun e => by
    rcases e with e | e | ⟨z, hz, e⟩ | e
    · have := blk_lt H.cells; have e : w.heap.size = h.blk := e; omega
    · have := (H.live.lt _ (hvb.symm.trans e)).2; omega
    · have := ((H.rows z (delAt_mem hz)).lt _ z.own).2; omega
    · have := H.lt _ (.inr (.inr (.inr e))); omega) 0 u1).mine w.heap.size (Nat.le_refl _) (fun e => by
    rcases e with e | e | ⟨z, hz, e⟩ | e
    · have := blk_lt H.cells; have e : w.heap.size = h.blk := e; omega
    · have := (H.live.lt _ (hvb.symm.trans e)).2; omega
    · have := ((H.rows z (delAt_mem hz)).lt _ z.own).2; omega
    · have := H.lt _ (.inr (.inr (.inr e))); omega) 1 u2⟩
  unfold Hp.ptr
  rw [← hxe]
  obtain ⟨g, hg⟩ : ∃ g, g = h.blk := ⟨_, rfl⟩
  obtain ⟨nl, hnl⟩ : ∃ nl, nl = h.bks.length := ⟨_, rfl⟩
  rw [← hnl] at k5 HDEL HEND hkl hlen
  rw [← hg] at k5 hb HFIND HEND HGN ⊢
  have hkli : (k : Int) < (nl : Int) := by omega
  have hnli : (nl : Int) ≤ 100 := by omega
  have HGB := hide hg
  clear hg hnl H hS hF hxe hne hre hce hbv hlv hy hyp hbel hy0 hy1 hy2 hsz hkd
  go_enter Tryz.func127, Tryz.ntmps127
  go_wp2_with fail
  refine (HFIND.out _ (by repeat (first | exact Q.refl _ | assumption | refine Q.drew ?_ | refine Q.drewN ?_ _ | refine Q.alloc ?_ _ | refine Q.set ?_ (by first | (simp; done) | (simp; omega) | omega) _ | refine Q.trans ?_ (by assumption)))).mono ?_
  rintro e w2 ⟨rfl, hq2⟩
  have hq02 : Q w w2 := Q.trans (by repeat (first | exact Q.refl _ | assumption | refine Q.drew ?_ | refine Q.drewN ?_ _ | refine Q.alloc ?_ _ | refine Q.set ?_ (by first | (simp; done) | (simp; omega) | omega) _ | refine Q.trans ?_ (by assumption))) hq2
  have k5b := (hq02.facts.1 g 5 hb).trans k5
  have y1 := (hq02.facts.1 gl _ hgl).trans x1
  have y2 := (hq02.facts.1 gl _ hgl).trans x2
  have hb2 : w2.heap[w.heap.size]? = some (.cells #[.int .i64 0, .slice none 0 0] 111 (0, 0)) := (hq2.below.block _ (by simp)).trans (heap_alloc_new w _)
  have hs2 := hq02.size
  have hs3 : w.heap.size < w2.heap.size := blk_lt hb2
  have HB2 := hide hb2
  have HQ02 := hide hq02
  have hg2 : g < w2.heap.size := by omega
  have hgn : ¬ g = w2.heap.size := by omega
  obtain ⟨w3, hw3⟩ : ∃ w3, w2.alloc (.cells #[.int .i64 x, .slice (some ⟨row, 0, none⟩) n cap] 111) = w3 := ⟨_, rfl⟩
  have hq3 : Q w w3 := by rw [← hw3]; exact hq02.alloc _
  have hb3 : w3.heap[w.heap.size]? = some (.cells #[.int .i64 0, .slice none 0 0] 111 (0, 0)) := by rw [← hw3, heap_alloc_old _ _ hs3]; exact HB2.out
  have hb4 : w3.heap[w2.heap.size]? = some (.cells #[.int .i64 x, .slice (some ⟨row, 0, none⟩) n cap] 111 (0, 0)) := by rw [← hw3]; exact heap_alloc_new _ _
  have HW3 := hide hw3
  have HQ3 := hide hq3
  have HB3 := hide hb3
  have HB4 := hide hb4
  clear hb2 hq02 hq2 k5 x1 x2 hw3 hq3 hb3 hb4
  go_wp2_with fail
  rw [HW3.out]
  refine (HDEL.out w3 HQ3.out).mono ?_
  rintro e w4 ⟨v, rfl, hm⟩
  obtain ⟨hR, c5, f5, hD, hs4, ⟨sa, sn, sc, hvs⟩⟩ := HEND.out w3 HQ3.out v w4 hm
  have hb3' : (w4.setCell ⟨g, 5, none⟩ v).heap[w.heap.size]? = some (.cells #[.int .i64 0, .slice none 0 0] 111 (0, 0)) := by
    rw [heap_setCell_other _ _ _ _ (show w.heap.size ≠ g by omega), hm.2.1.block _ (blk_lt HB3.out) (fun e => by have := HLV.out _ e.symm; omega)]
    exact HB3.out
  have hb4' : (w4.setCell ⟨g, 5, none⟩ v).heap[w2.heap.size]? = some (.cells #[.int .i64 x, .slice (some ⟨row, 0, none⟩) n cap] 111 (0, 0)) := by
    rw [heap_setCell_other _ _ _ _ (show w2.heap.size ≠ g by omega), hm.2.1.block _ (blk_lt HB4.out) (fun e => by have := HLV.out _ e.symm; omega)]
    exact HB4.out
  have hs5 : (w4.setCell ⟨g, 5, none⟩ v).heap.size = w4.heap.size := by simp [World.setCell]
  obtain ⟨ty, u, fT, rcv, k6, hmeth, hent, hGC⟩ := HGN.out v _ hR
  obtain ⟨w5, hw5⟩ : ∃ w5, w5 = w4.setCell ⟨g, 5, none⟩ v := ⟨_, rfl⟩
  have hFP : ∀ b, (delH h v k).fp b → b < w.heap.size := fun b hb => by
    rcases hD.fp b hb with hf | hf
    · exact HLT.out b hf
    · exact absurd hf (by
        have := hR.lt b hb
        rcases hb with hf' | hf' | ⟨z, hz, hf'⟩ | hf'
        · have h2 := hf'.trans HGB.out.symm; omega
        · have := HLV.out b (hm.2.2.symm.trans hf'); omega
        · have := HLT.out b (.inr (.inr (.inl ⟨z, delAt_mem hz, hf'⟩))); omega
        · have := HLT.out b (.inr (.inr (.inr hf'))); omega)
  rw [← hw5] at k6 hGC hb3' hb4' hs5 hD
  have K6 := hide k6
  have HM := hide hmeth
  have HE := hide hent
  have HT3 := hide hGC
  have HB3' := hide hb3'
  have HB4' := hide hb4'
  have HD := hide hD
  have HFP := hide hFP
  have HS4 := hide hs4
  have HS5 := hide hs5
  have HW5 := hide hw5
  have HVB := hide hm.2.2
  clear hb3' hb4' hR hD hm hs4 hs5 k6 hmeth hent hGC hFP HEND HDEL HGN HFIND HB3 HB4 HB2 HW3 y1 y2 k5b hw5
  subst hvs
  go_wp2_with fail
  rw [← HW5.out]
  have hg5 : g < w5.heap.size := by have := HS4.out; have := HS5.out; have := HQ3.out.size; omega
  refine Ri.made_last (Ri.phi [Ri.isV (.pointer (some ⟨g, 0, none⟩)), Ri.isV (.pointer (some ⟨g, 0, none⟩)), Ri.isV (.pointer (some ⟨g, 6, none⟩)), Ri.isV (.iface ty u), Ri.isV (.agg #[.int .i64 x, .slice (some ⟨row, 0, none⟩) n cap])]) (by kernel_rfl) (by kernel_rfl) rfl (by kernel_rfl) rfl (Ri.phi_mono ?_) ?_ ?_
  · exact ⟨Ri.mono_isV _, Ri.mono_isV _, Ri.mono_isV _, Ri.mono_isV _, Ri.mono_isV _, trivial⟩
  · refine Ri.All.cons ?_ (Ri.All.cons ?_ (Ri.All.cons ?_ (Ri.All.cons ?_ (Ri.All.cons ?_ (Ri.All.nil)))))
    · refine ⟨rfl, fun f W hq hf A hA hB hO => ?_⟩
      have e1 := (hB 0 (by kernel_rfl)).trans (show _ = .pointer (some ⟨g, 0, none⟩) by simp [Act.eval])
      exact Ri.wp_value _ (Ri.run_mv rfl e1) rfl
    · refine ⟨rfl, fun f W hq hf A hA hB hO => ?_⟩
      have e1 := (hA 37 0 (by kernel_rfl) (by simp)).trans (show f 0 = _ from hf 0 (by kernel_rfl))
      exact Ri.wp_value _ (Ri.run_nil rfl e1) rfl
    · refine ⟨rfl, fun f W hq hf A hA hB hO => ?_⟩
      have e1 := (hA 38 1 (by kernel_rfl) (by simp)).trans (show f 1 = _ from hf 1 (by kernel_rfl))
      exact Ri.wp_value _ (Ri.run_fld (f := _) rfl e1 Tryz.underlying94 rfl (sz := 0) (by kernel_rfl)) rfl
    · refine ⟨rfl, fun f W hq hf A hA hB hO => ?_⟩
      have e1 := (hA 39 2 (by kernel_rfl) (by simp)).trans (show f 2 = _ from hf 2 (by kernel_rfl))
      exact Ri.wp_value _ (Ri.run_ld1 rfl e1 Tryz.underlying92 rfl ((((Q.refl w5).drew.trans hq).facts.1 g 6 hg5).trans K6.out)) rfl
    · refine ⟨rfl, fun f W hq hf A hA hB hO => ?_⟩
      have e1 := (hB 7 (by kernel_rfl)).trans (show _ = .pointer (some ⟨w2.heap.size, 0, none⟩) by simp [Act.eval])
      exact Ri.wp_value _ (Ri.run_ldrow rfl e1 ((((Q.refl w5).drew.trans hq).below.block _ (blk_lt HB4'.out)).trans HB4'.out) Tryz.underlying111 rfl (by kernel_rfl)) rfl
  · intro f W hq hf A hAe hA hB
    have hqw : Q w5 W := hq
    have e1 := (hA 40 3 (by kernel_rfl) (by simp)).trans (show f 3 = _ from hf 3 (by simp))
    have e2 := (hA 41 4 (by kernel_rfl) (by simp)).trans (show f 4 = _ from hf 4 (by simp))
    refine Ri.wp_invoke rfl e1 (by kernel_rfl) HM.out HE.out #[.agg #[.int .i64 x, .slice (some ⟨row, 0, none⟩) n cap]] (by simp [e2]) ((HT3.out W hqw).mono ?_)
    rintro e W2 ⟨rfl, hd⟩
    refine ⟨_, rfl, ?_⟩
    have hk : ∀ b, w.heap.size ≤ b → b < w5.heap.size → W2.heap[b]? = w5.heap[b]? := fun b h1 h2 => (hd.turn.block b (by have := hqw.size; omega) (fun e => by have := HFP.out b e; omega)).trans (hqw.below.block b h2)
    have hB0 := (hk _ (Nat.le_refl _) (blk_lt HB3'.out)).trans HB3'.out
    have hB1 := (hk _ hs2 (blk_lt HB4'.out)).trans HB4'.out
    have HRW := hide (HRES.out _ W2 HVB.out ((HD.out.q hqw).trans hd))
    rw [hAe]
    simp only [Ri.acts, Act.put]
    have z0 : W2.cell? ⟨w2.heap.size, 0, none⟩ = some (.int .i64 x) := by rw [cell_of_row _ _ _ _ _ _ hB1]; rfl
    have z1 : W2.cell? ⟨w2.heap.size, 1, none⟩ = some (.slice (some ⟨row, 0, none⟩) n cap) := by rw [cell_of_row _ _ _ _ _ _ hB1]; rfl
    have HB0 := hide hB0
    have t0 : W2.cell? ⟨w.heap.size, 0, none⟩ = some (.int .i64 0) := by rw [cell_of_row _ _ _ _ _ _ hB0]; rfl
    have t1 : W2.cell? ⟨w.heap.size, 1, none⟩ = some (.slice none 0 0) := by rw [cell_of_row _ _ _ _ _ _ hB0]; rfl
    have f0 : W2.frozen? ⟨w.heap.size, 0, none⟩ = false := frozen_of_row _ _ _ _ _ hB0
    have f1 : W2.frozen? ⟨w.heap.size, 1, none⟩ = false := frozen_of_row _ _ _ _ _ hB0
    clear hf hA hB hAe e1 e2 hq hqw hd HM HE HT3 hk hB0 hB1 HRES HD HFP
    go_wp2_with fail
    have h1 := heap_setCell_same W2 w.heap.size 0 _ _ (Value.int .i64 x) HB0.out
    have h2 := heap_setCell_same _ w.heap.size 1 _ _ (Value.slice (some ⟨row, 0, none⟩) n cap) h1
    refine bodyPost_ret (v := .agg #[.int .i64 x, .slice (some ⟨row, 0, none⟩) n cap]) (results_cell_row rfl _ _ w.heap.size _ _ _ _ (by simp) h2 Tryz.underlying111 rfl (by kernel_rfl)) rfl ?_
    exact HRW.out _ _
end Go.Proofs.YtdaklffbfadghaaGreat

namespace Go.Proofs.YtdaklffbfadghaaGreat
open Go.RowKit HP
set_option linter.unusedVariables false
def sizeB (n : Int) : Bool := decide (1 ≤ n) && decide (n ≤ 4096)
def countM (m : HM) : HM := { m with calls := m.calls + 1, failIn := if m.failIn = 0 then 0 else m.failIn - 1 }
def takenM (m : HM) (x : PB) : Int := if m.kind = 1 ∨ m.kind = 2 then pend x else m.top
def goneM (m : HM) (x : PB) : Int := if m.kind = 2 ∧ (m.live.any fun y => decide (x.1 < y.1)) = false then x.1 else m.top
def putM (m : HM) (x : PB) : HM := { m with live := insAt m.live (below m.live x.1) [x], top := takenM m x }
def cutM (m : HM) (k : Nat) : HM := { m with live := delAt m.live k 1 }
def takeM (m : HM) (k : Nat) (x : PB) : HM := { cutM m k with top := goneM (cutM m k) x }
def noteM (m : HM) : HM := { m with peak := max m.peak (used m.live) }
def allocM (m : HM) (n align : Int) : HM × Int × Int :=
  if (sizeB n && alignB align) = false then (m, 0, 1)
  else if m.failIn = 1 ∨ m.live.length = 64 then (countM m, 0, 3)
  else match roomM (countM m) n align with
    | none => (countM m, 0, 3)
    | some a => (noteM (putM (countM m) (a, undefs n.toNat)), a, 0)
/-- the block that begins there -/
def atM (m : HM) (at_ : Int) : PB := (m.live[below m.live at_]?).getD (0, [])
def freeM (m : HM) (at_ : Int) : HM × Int :=
  if has m.live at_ = false then (m, 9) else (takeM m (below m.live at_) (atM m at_), 0)
/-! the heap's parts read as the model's -/
theorem m_put (h : Hp) (v : Value) (x : Bk) : ({ putH h v (putK h x) x with top := takenTop h x.pb } : Hp).m = putM h.m x.pb := by
  unfold putM Hp.m putH putK takenM takenTop
  simp only [insAt_map]
theorem m_take (h : Hp) (v : Value) (k : Nat) (x : PB) : ({ delH h v k with top := goneTop (delH h v k) x } : Hp).m = takeM h.m k x := by
  unfold takeM cutM goneM Hp.m delH goneTop
  simp only [delAt_map]
  congr 1
  rw [← delAt_map, List.any_map]
  rfl
theorem m_note (h : Hp) : ({ h with peak := max h.peak (used (h.bks.map (·.pb))) } : Hp).m = noteM h.m := rfl
/-- what holds of every heap -/
structure Inv (m : HM) : Prop where
  kind : 0 ≤ m.kind ∧ m.kind ≤ 3
  fit : Fit m.size m.live
  len : m.live.length ≤ 64
  top : 0 ≤ m.top ∧ m.top ≤ m.size
  bump : m.kind = 1 ∨ m.kind = 2 → ∀ x ∈ m.live, pend x ≤ m.top
  piece : m.kind = 3 → 1 ≤ m.piece ∧ m.piece ≤ m.size
  pool : m.kind = 3 → ∀ x ∈ m.live, x.1 % m.piece = 0 ∧ x.1 + m.piece ≤ m.size ∧ (x.2.length : Int) ≤ m.piece
  peak : used m.live ≤ m.peak ∧ m.peak ≤ 1000000
  failIn : 0 ≤ m.failIn ∧ m.failIn ≤ 1000
  calls : 0 ≤ m.calls
theorem Inv.near {h : Hp} (I : Inv h.m) : Near h.bks := by
  refine ⟨?_, fun x hx => ?_⟩
  · have := I.len
    simp only [Hp.m, List.length_map] at this
    omega
  · have h1 := I.fit.inn x.pb (List.mem_map_of_mem hx)
    have h2 := I.fit.sz
    unfold pend at h1
    omega
theorem Inv.ok {h : Hp} (I : Inv h.m) (hc : h.calls ≤ 1000000000) : Ok h :=
  ⟨I.kind, I.near, I.fit, ⟨I.top.1, by have := I.top.2; have := I.fit.sz.2; have : h.m.top = h.top := rfl; have : h.m.size = h.size := rfl; omega⟩, I.piece, ⟨by have := I.peak.1; have := used_nonneg h.m.live; have : h.m.peak = h.peak := rfl; omega, I.peak.2⟩, ⟨I.calls, hc⟩, I.failIn⟩
theorem Inv.count {m : HM} (I : Inv m) : Inv (countM m) :=
  ⟨I.kind, I.fit, I.len, I.top, I.bump, I.piece, I.pool, I.peak, by
    have := I.failIn
    show 0 ≤ (if m.failIn = 0 then 0 else m.failIn - 1) ∧ (if m.failIn = 0 then 0 else m.failIn - 1) ≤ 1000
    split <;> omega, by have := I.calls; show 0 ≤ m.calls + 1; omega⟩
end Go.Proofs.YtdaklffbfadghaaGreat

namespace Go.Proofs.YtdaklffbfadghaaGreat
open Go.RowKit HP
set_option linter.unusedVariables false
def locked (h : Hp) : Hp := { h with mu := 1 }
def unlocked (h : Hp) : Hp := { h with mu := 0 }
/-- an act with two results -/
def Act2 (r : HM × Int × Int) (w : World) (h : Hp) (e : Ending) (w' : World) : Prop :=
  ∃ h', e = .returned (.tuple #[.int .i64 r.2.1, .int .i64 r.2.2]) ∧ Did w h w' h' ∧ h'.mu = 0 ∧ h'.m = r.1
/-- an act with an error alone -/
def Act1 (r : HM × Int) (w : World) (h : Hp) (e : Ending) (w' : World) : Prop :=
  ∃ h', e = .returned (.int .i64 r.2) ∧ Did w h w' h' ∧ h'.mu = 0 ∧ h'.m = r.1
theorem HpR.mu0 {w : World} {h : Hp} (H : HpR w h) : w.cell? ⟨h.blk, 0, none⟩ = some (.int .i32 h.mu) := by rw [H.cell 0]; rfl
/-- behind the lock's release -/
theorem Did.out2 {w W : World} {h h2 : Hp} {r : HM × Int × Int} (D : Did w h W h2) (g : Nat) (hg : g = h2.blk) (hm : h2.m = r.1) : Act2 r w h (.returned (.tuple #[.int .i64 r.2.1, .int .i64 r.2.2])) (W.setCell ⟨g, 0, none⟩ (.int .i32 0)) := by
  subst hg
  exact ⟨_, rfl, D.lock 0, rfl, hm⟩
theorem Did.out1 {w W : World} {h h2 : Hp} {r : HM × Int} (D : Did w h W h2) (g : Nat) (hg : g = h2.blk) (hm : h2.m = r.1) : Act1 r w h (.returned (.int .i64 r.2)) (W.setCell ⟨g, 0, none⟩ (.int .i32 0)) := by
  subst hg
  exact ⟨_, rfl, D.lock 0, rfl, hm⟩
/-- the lock's own cell -/
theorem Did.mine0 {w W : World} {h h2 : Hp} (D : Did w h W h2) (g : Nat) (hg : g = h2.blk) (hm : h2.mu = 1) : W.cell? ⟨g, 0, none⟩ = some (.int .i32 1) ∧ W.frozen? ⟨g, 0, none⟩ = false := by
  subst hg
  exact ⟨by rw [D.rep.mu0, hm], D.rep.free 0⟩
/-- a block of new bytes, put into a heap -/
theorem did_put {w w0 W : World} {h0 h : Hp} {v : Value} {x : Bk} (D : Did w0 h0 w h) (hr : HpR W { putH h v (putK h x) x with top := takenTop h x.pb }) (ht : Turn (fun b => h.fp b ∨ b = x.row) w W) (hv : ∀ b, v.ownBlock = some b → h.lv.ownBlock = some b ∨ w.heap.size ≤ b) (hB : w0.heap.size ≤ x.row) : Did w0 h0 W { putH h v (putK h x) x with top := takenTop h x.pb } :=
  ⟨hr, D.turn.trans ht fun i hi e => by
    rcases e with e | e
    · rcases D.fp i e with e | e
      · exact e
      · omega
    · omega, D.blk, fun b e => by
    have key : h.fp b ∨ w0.heap.size ≤ b := by
      rcases e with e | e | ⟨y, hy, e⟩ | e
      · exact .inl (.inl e)
      · rcases hv b e with e | e
        · exact .inl (.inr (.inl e))
        · exact .inr (Nat.le_trans D.turn.size e)
      · rcases insAt_mem.1 hy with rfl | hy
        · exact .inr (by omega)
        · exact .inl (.inr (.inr (.inl ⟨y, hy, e⟩)))
      · exact .inl (.inr (.inr (.inr e)))
    rcases key with e | e
    · exact D.fp b e
    · exact .inr e⟩
theorem own_low {w : World} {B B' : Nat} {e : TypeId} {size : Nat} {v : Value} {n : Nat} {xs : List Value} (h : w.ownsRow B e size v n xs) (hb : B' ≤ B) : w.ownsRow B' e size v n xs := by
  refine ⟨h.1, ?_⟩
  rcases h.2 with h2 | ⟨g, cap, cur, a, b, c, d⟩
  · exact .inl h2
  · exact .inr ⟨g, cap, cur, a, by omega, c, d⟩
theorem HpR.k5 {w : World} {h : Hp} (H : HpR w h) : w.cell? ⟨h.blk, 5, none⟩ = some h.lv := by rw [H.cell 5]; rfl
theorem HpR.k6 {w : World} {h : Hp} (H : HpR w h) : w.cell? ⟨h.blk, 6, none⟩ = some h.way := by rw [H.cell 6]; rfl
theorem undefs_len (n : Nat) : (undefs n).length = n := by simp [undefs]
theorem undefs_v (n : Nat) : intsV (undefs n) = List.replicate n (.int .i64 (-1)) := by simp [intsV, undefs]

theorem room_bounds {m : HM} (hs : m.size ≤ 4096) (ht : 0 ≤ m.top) (hp : m.kind = 3 → 1 ≤ m.piece) {n al a : Int} (hn : 1 ≤ n) (hal : 1 ≤ al) (h : roomM m n al = some a) : 0 ≤ a ∧ a + n ≤ m.size := by
  have hscan : ∀ (p : Int → Bool) (lim step : Int), 0 ≤ step → ∀ (f : Nat) (a0 a : Int), 0 ≤ a0 → scanF p lim step f a0 = some a → 0 ≤ a ∧ a ≤ lim ∧ p a = true := by
    intro p lim step hst f
    induction f with
    | zero => intro a0 a _ h; simp [scanF] at h
    | succ f ih =>
      intro a0 a h0 h
      unfold scanF at h
      split at h
      · cases h
      · split at h
        · cases h; rename_i h1 h2; exact ⟨h0, by omega, h2⟩
        · exact ih _ _ (by omega) h
  unfold roomM at h
  split at h
  · have := hscan _ _ _ (by omega) _ _ _ (by omega) h
    omega
  · split at h
    · split at h
      · rename_i _ h3 _
        have := hp h3
        have := hscan _ _ _ (by omega) _ _ _ (by omega) h
        omega
      · cases h
    · split at h
      · cases h
        rename_i h4
        refine ⟨?_, h4⟩
        unfold upTo
        have h5 : 0 ≤ (m.top + al - 1) / al := Int.ediv_nonneg (by omega) (by omega)
        exact Int.mul_nonneg h5 (by omega)
      · cases h
set_option maxHeartbeats 4000000 in
set_option maxRecDepth 100000 in
theorem alloc_any (h : Hp) (n align : Int) (w : World) (H : HpR w h) (I : Inv h.m) (hmu : h.mu = 0) (hcl : h.calls < 1000000000) :
    Calls Tryz.prog 9 #[h.ptr, .int .i64 n, .int .i64 align] w (Act2 (allocM h.m n align) w h) := by
  have c0 := H.mu0
  rw [hmu] at c0
  have f0 := H.free 0
  obtain ⟨w1, hw1⟩ : ∃ w1, w1 = w.setCell ⟨h.blk, 0, none⟩ (.int .i32 1) := ⟨_, rfl⟩
  have D1 : Did w h w1 (locked h) := by rw [hw1]; exact (Did.refl H).lock 1
  obtain ⟨r, hr⟩ : ∃ r, r = allocM h.m n align := ⟨_, rfl⟩
  rw [← hr]
  have hbl := blk_lt D1.rep.cells
  unfold Hp.ptr
  obtain ⟨g, hg⟩ : ∃ g, g = h.blk := ⟨_, rfl⟩
  rw [← hg] at c0 f0 hw1 ⊢
  have HIS : Hid (∀ W, Calls Tryz.prog 59 #[.int .i64 n] W fun e w' => e = .returned (.bool (sizeB n)) ∧ W = w') := fun W => isSize_any n W
  have HIA : Hid (∀ W, Calls Tryz.prog 60 #[.int .i64 align] W fun e w' => e = .returned (.bool (alignB align)) ∧ Q W w') := fun W => isAlign_any align W
  have HCN : Hid (∀ W, HpR W (locked h) → Calls Tryz.prog 61 #[.pointer (some ⟨g, 0, none⟩)] W (CountPost W (locked h))) := by rw [hg]; exact fun W hW => counted_any (locked h) W hW ⟨I.calls, Int.le_of_lt hcl⟩ I.failIn
  have HLV : Hid (∃ A c, h.lv = .slice A h.bks.length c) := by
    obtain ⟨A, c, e, -⟩ := H.open_
    exact ⟨A, c, e⟩
  have HI := hide I
  have HW1 := hide hw1
  have HR := hide hr
  have HG := hide hg
  have HD1 := hide D1
  have HCL := hide hcl
  clear I H hw1 hr hg D1 hcl hbl
  cases hs : sizeB n
  · rw [hs] at HIS
    have KMU := hide (HD1.out.mine0 g HG.out rfl).1
    have KFR := hide (HD1.out.mine0 g HG.out rfl).2
    have hr1 : r = (h.m, 0, 1) := by rw [HR.out]; unfold allocM; simp [hs]
    have FIN := hide (HD1.out.out2 (r := r) g HG.out (by rw [hr1]; rfl))
    rw [hr1] at FIN
    dsimp only at FIN
    rw [hr1]
    clear hr1 HR hs
    go_enter_defers Tryz.func9, Tryz.ntmps9
    go_wp2_with (go_at_call 57; refine (Go.MuLone.lock_free muLib ⟨g, 0, none⟩ _ c0 f0).mono ?_; rintro e w' ⟨rfl, rfl⟩)
    refine (HIS.out _).mono ?_
    rintro e w2 ⟨rfl, rfl⟩
    go_wp2_with fail
    rw [← HW1.out]
    refine leaves_cons (f := 58) (args := #[.pointer (some ⟨g, 0, none⟩)]) (by simp) (by simp [go_sem]) ?_
    refine (Go.MuLone.unlock_deferred muLib ⟨g, 0, none⟩ .returning _ KMU.out KFR.out).mono ?_
    rintro e u' w9 ⟨rfl, rfl, rfl⟩
    refine ⟨_, results_tmp2 rfl _ _ _, ?_⟩
    exact FIN.out
  · rw [hs] at HIS
    cases ha : alignB align
    · rw [ha] at HIA
      have hr1 : r = (h.m, 0, 1) := by rw [HR.out]; unfold allocM; simp [hs, ha]
      have FIN0 : Hid (∀ W, Q w1 W → Act2 (h.m, 0, 1) w h (.returned (.tuple #[.int .i64 0, .int .i64 1])) (W.setCell ⟨g, 0, none⟩ (.int .i32 0))) := fun W hW => (HD1.out.q hW).out2 (r := (h.m, 0, 1)) g HG.out rfl
      have KM : Hid (∀ W, Q w1 W → W.cell? ⟨g, 0, none⟩ = some (.int .i32 1) ∧ W.frozen? ⟨g, 0, none⟩ = false) := fun W hW => (HD1.out.q hW).mine0 g HG.out rfl
      rw [hr1]
      clear hr1 HR hs ha
      go_enter_defers Tryz.func9, Tryz.ntmps9
      go_wp2_with (go_at_call 57; refine (Go.MuLone.lock_free muLib ⟨g, 0, none⟩ _ c0 f0).mono ?_; rintro e w' ⟨rfl, rfl⟩)
      refine (HIS.out _).mono ?_
      rintro e w2 ⟨rfl, rfl⟩
      go_wp2_with fail
      rw [← HW1.out]
      refine (HIA.out w1).mono ?_
      rintro e w3 ⟨rfl, hq3⟩
      go_wp2_with fail
      have FIN := hide (FIN0.out _ hq3)
      have KMU := hide (KM.out _ hq3).1
      have KFR := hide (KM.out _ hq3).2
      refine leaves_cons (f := 58) (args := #[.pointer (some ⟨g, 0, none⟩)]) (by simp) (by simp [go_sem]) ?_
      refine (Go.MuLone.unlock_deferred muLib ⟨g, 0, none⟩ .returning _ KMU.out KFR.out).mono ?_
      rintro e u' w9 ⟨rfl, rfl, rfl⟩
      refine ⟨_, results_tmp2 rfl _ _ _, ?_⟩
      exact FIN.out
    · rw [ha] at HIA
      have hk : ∃ k : Nat, n = (k : Int) ∧ 1 ≤ k ∧ k ≤ 4096 := by
        unfold sizeB at hs
        simp at hs
        exact ⟨n.toNat, by omega, by omega, by omega⟩
      obtain ⟨k, rfl, hk1, hk2⟩ := hk
      obtain ⟨bf, hbf⟩ : ∃ bf, bf = (h.failIn == 1) := ⟨_, rfl⟩
      -- what holds behind counted
      obtain ⟨h2, hh2⟩ : ∃ h2, h2 = countH (locked h) := ⟨_, rfl⟩
      have hm2 : h2.m = countM h.m := by rw [hh2]; rfl
      have I2 : Inv h2.m := by rw [hm2]; exact HI.out.count
      have hb2 : h2.blk = g := by rw [hh2, HG.out]; rfl
      have hmu2 : h2.mu = 1 := by rw [hh2]; rfl
      have hcl2 : h2.calls ≤ 1000000000 := by rw [hh2]; have := HCL.out; show h.calls + 1 ≤ _; omega
      have HC4 : Hid (∀ W, Q w1 W → Calls Tryz.prog 61 #[.pointer (some ⟨g, 0, none⟩)] W fun e w' => e = .returned (.bool bf) ∧ Did w h w' h2) := fun W hq => (HCN.out W (HD1.out.rep.q hq)).mono fun e w' hc => by
        obtain ⟨he, hd⟩ := hc
        refine ⟨by rw [he, hbf]; rfl, ?_⟩
        rw [hh2]
        exact (HD1.out.q hq).trans hd
      have FLS : Hid (allocM h.m k align = (countM h.m, 0, 3) → ∀ W, Did w h W h2 → Act2 r w h (.returned (.tuple #[.int .i64 0, .int .i64 3])) (W.setCell ⟨g, 0, none⟩ (.int .i32 0))) := fun e W D => by
        rw [HR.out, e]
        exact D.out2 (r := (countM h.m, 0, 3)) g hb2.symm hm2
      have KM : Hid (∀ W h3, Did w h W h3 → h3.blk = g → h3.mu = 1 → W.cell? ⟨g, 0, none⟩ = some (.int .i32 1) ∧ W.frozen? ⟨g, 0, none⟩ = false) := fun W h3 D e1 e2 => D.mine0 g e1.symm e2
      have HM2 := hide hm2
      have HI2 := hide I2
      have HB2 := hide hb2
      have HMU2 := hide hmu2
      have HCL2 := hide hcl2
      have HBF := hide hbf
      have HS := hide hs
      have HA := hide ha
      clear hm2 I2 hb2 hmu2 hcl2 hbf hs ha HCN
      cases bf
      rotate_left
      · have FIN0 := hide (FLS.out (by unfold allocM; simp only [HS.out, HA.out]; rw [if_neg (by simp), if_pos (.inl (show h.failIn = 1 from by have := HBF.out; simpa using this.symm))]))
        clear HR hh2
        go_enter_defers Tryz.func9, Tryz.ntmps9
        go_wp2_with (go_at_call 57; refine (Go.MuLone.lock_free muLib ⟨g, 0, none⟩ _ c0 f0).mono ?_; rintro e w' ⟨rfl, rfl⟩)
        refine (HIS.out _).mono ?_
        rintro e w2 ⟨rfl, rfl⟩
        go_wp2_with fail
        rw [← HW1.out]
        refine (HIA.out w1).mono ?_
        rintro e w3 ⟨rfl, hq3⟩
        go_wp2_with fail
        refine (HC4.out w3 hq3).mono ?_
        rintro e w4 ⟨rfl, hd4⟩
        have FIN := hide (FIN0.out _ hd4)
        have KMU := hide (KM.out _ _ hd4 HB2.out HMU2.out).1
        have KFR := hide (KM.out _ _ hd4 HB2.out HMU2.out).2
        clear hd4
        go_wp2_with fail
        refine leaves_cons (f := 58) (args := #[.pointer (some ⟨g, 0, none⟩)]) (by simp) (by simp [go_sem]) ?_
        refine (Go.MuLone.unlock_deferred muLib ⟨g, 0, none⟩ .returning _ KMU.out KFR.out).mono ?_
        rintro e u' w9 ⟨rfl, rfl, rfl⟩
        refine ⟨_, results_tmp2 rfl _ _ _, ?_⟩
        exact FIN.out
      · have hnf : ¬ h.m.failIn = 1 := by have := HBF.out; have e : h.m.failIn = h.failIn := rfl; rw [e]; intro hx; rw [hx] at this; exact absurd this (by decide)
        obtain ⟨N, hN⟩ : ∃ N, N = h2.bks.length := ⟨_, rfl⟩
        have hNm : h.m.live.length = N := by
          have e : h2.m.live.length = h.m.live.length := by rw [HM2.out]; rfl
          rw [← e, hN]
          exact List.length_map _
        have hlv : ∃ A c, h2.lv = .slice A N c := by
          obtain ⟨A, c, e⟩ := HLV.out
          rw [hN, hh2]
          exact ⟨A, c, e⟩
        obtain ⟨A5, c5, hlv⟩ := hlv
        have K5 : Hid (∀ W, Did w h W h2 → W.cell? ⟨g, 5, none⟩ = some (.slice A5 N c5)) := fun W D => by
          have := D.rep.k5
          rw [HB2.out, hlv] at this
          exact this
        have hN64 : N ≤ 64 := by have := HI.out.len; omega
        have HNM := hide hNm
        have HNF := hide hnf
        have HN := hide hN
        clear hN hNm hnf hlv hh2
        by_cases h64 : N = 64
        · have FIN0 := hide (FLS.out (by unfold allocM; simp only [HS.out, HA.out]; rw [if_neg (by simp), if_pos (.inr (by rw [HNM.out, h64]))]))
          clear HR HNM HNF HN hN64
          subst h64
          have h64' : (((64 : Nat) : Int) == 64) = true := by decide
          go_enter_defers Tryz.func9, Tryz.ntmps9
          go_wp2_with (go_at_call 57; refine (Go.MuLone.lock_free muLib ⟨g, 0, none⟩ _ c0 f0).mono ?_; rintro e w' ⟨rfl, rfl⟩)
          refine (HIS.out _).mono ?_
          rintro e w2 ⟨rfl, rfl⟩
          go_wp2_with fail
          rw [← HW1.out]
          refine (HIA.out w1).mono ?_
          rintro e w3 ⟨rfl, hq3⟩
          go_wp2_with fail
          refine (HC4.out w3 hq3).mono ?_
          rintro e w4 ⟨rfl, hd4⟩
          have k5 := K5.out _ hd4
          have FIN := hide (FIN0.out _ hd4)
          have KMU := hide (KM.out _ _ hd4 HB2.out HMU2.out).1
          have KFR := hide (KM.out _ _ hd4 HB2.out HMU2.out).2
          clear hd4
          go_wp2_with fail
          refine leaves_cons (f := 58) (args := #[.pointer (some ⟨g, 0, none⟩)]) (by simp) (by simp [go_sem]) ?_
          refine (Go.MuLone.unlock_deferred muLib ⟨g, 0, none⟩ .returning _ KMU.out KFR.out).mono ?_
          rintro e u' w9 ⟨rfl, rfl, rfl⟩
          refine ⟨_, results_tmp2 rfl _ _ _, ?_⟩
          exact FIN.out
        · obtain ⟨fR, rcvR, ⟨ty, v, hway, hmeth, hent⟩, hroom⟩ := room_any h2 (HI2.out.ok HCL2.out)
          have K6 : Hid (∀ W, Did w h W h2 → W.cell? ⟨g, 6, none⟩ = some (.iface ty v)) := fun W D => by
            have := D.rep.k6
            rw [HB2.out, hway] at this
            exact this
          obtain ⟨ro, hro⟩ : ∃ ro, ro = roomM h2.m (k : Int) align := ⟨_, rfl⟩
          have hal : 1 ≤ align ∧ align ≤ 16 := by
            have := HA.out
            unfold alignB at this
            simp at this
            omega
          have HRM : Hid (∀ W, HpR W h2 → Calls Tryz.prog fR #[rcvR, .int .i64 (k : Int), .int .i64 align] W (RoomPost ro W)) := fun W hW => by
            rw [hro]
            exact hroom (k : Int) align W hW (by omega) (by omega) hal.1 hal.2
          have h64' : ((N : Int) == 64) = false := by simp; omega
          have HRO := hide hro
          clear hroom hway hro hal
          cases ro with
          | none =>
            have FIN0 := hide (FLS.out (by unfold allocM; simp only [HS.out, HA.out]; rw [if_neg (by simp), if_neg (by rintro (h | h); exact HNF.out h; exact h64 (HNM.out.symm.trans h)), ← HM2.out, ← HRO.out]))
            clear HR HNM HNF HN hN64 HRO h64
            go_enter_defers Tryz.func9, Tryz.ntmps9
            go_wp2_with (go_at_call 57; refine (Go.MuLone.lock_free muLib ⟨g, 0, none⟩ _ c0 f0).mono ?_; rintro e w' ⟨rfl, rfl⟩)
            refine (HIS.out _).mono ?_
            rintro e w2 ⟨rfl, rfl⟩
            go_wp2_with fail
            rw [← HW1.out]
            refine (HIA.out w1).mono ?_
            rintro e w3 ⟨rfl, hq3⟩
            go_wp2_with fail
            refine (HC4.out w3 hq3).mono ?_
            rintro e w4 ⟨rfl, hd4⟩
            have k5 := K5.out _ hd4
            have k6 := K6.out _ hd4
            have HD4 := hide hd4
            clear hd4
            go_wp2_with fail
            refine (HRM.out w4 HD4.out.rep).mono ?_
            rintro e w5 ⟨a, ok, rfl, hok, -, hq5⟩
            obtain rfl : ok = false := hok
            have hd5 := HD4.out.q hq5
            have FIN := hide (FIN0.out _ hd5)
            have KMU := hide (KM.out _ _ hd5 HB2.out HMU2.out).1
            have KFR := hide (KM.out _ _ hd5 HB2.out HMU2.out).2
            clear hd5
            go_wp2_with fail
            refine leaves_cons (f := 58) (args := #[.pointer (some ⟨g, 0, none⟩)]) (by simp) (by simp [go_sem]) ?_
            refine (Go.MuLone.unlock_deferred muLib ⟨g, 0, none⟩ .returning _ KMU.out KFR.out).mono ?_
            rintro e u' w9 ⟨rfl, rfl, rfl⟩
            refine ⟨_, results_tmp2 rfl _ _ _, ?_⟩
            exact FIN.out
          | some a0 =>
            have hr1 : allocM h.m k align = (noteM (putM (countM h.m) (a0, undefs k)), a0, 0) := by
              unfold allocM
              simp only [HS.out, HA.out]
              rw [if_neg (by simp), if_neg (by rintro (h | h); exact HNF.out h; exact h64 (HNM.out.symm.trans h)), ← HM2.out, ← HRO.out]
              rfl
            obtain ⟨ha0, ha1⟩ : 0 ≤ a0 ∧ a0 + (k : Int) ≤ h2.m.size := room_bounds HI2.out.fit.sz.2 HI2.out.top.1 (fun e => (HI2.out.piece e).1) (n := (k : Int)) (al := align) (by omega) (by have := HA.out; unfold alignB at this; simp at this; omega) HRO.out.symm
            have hsz := HI2.out.fit.sz.2
            have hmax : maxLen ≥ 4096 := by simp only [maxLen]; omega
            have HFR : Hid (∀ W, Calls Tryz.prog 63 #[.int .i64 (k : Int)] W (RepPost k (.int .i64 (-1)) W)) := fun W => fresh_any k W (by omega)
            have HPT : Hid (∀ W w5 g1, Q w5 W → Did w h w5 h2 → W.ownsRow w5.heap.size 3 1 (.slice (some ⟨g1, 0, none⟩) k k) k (List.replicate k (.int .i64 (-1))) → Calls Tryz.prog 62 #[.pointer (some ⟨g, 0, none⟩), .agg #[.int .i64 a0, .slice (some ⟨g1, 0, none⟩) k k]] W fun e w' =>
                e = .returned (.tuple #[]) ∧ ∃ h3, Did w h w' h3 ∧ h3.blk = g ∧ h3.mu = 1 ∧ h3.m = putM (countM h.m) (a0, undefs k) ∧ Near h3.bks) := fun W w5 g1 hq D hown => by
              have hrow := (hown.lt g1 rfl).1
              have e1 : (⟨(a0, undefs k), g1, k⟩ : Bk).bv = .slice (some ⟨g1, 0, none⟩) k k := by unfold Bk.bv; simp [undefs_len]
              have HW := D.rep.q hq
              have h1 := put_any h2 ⟨(a0, undefs k), g1, k⟩ W HW HI2.out.kind (by have := HI2.out.len; simp only [Hp.m, List.length_map] at this; omega) HI2.out.fit ha0 (by show a0 ≤ 10000; omega) (by show (undefs k).length ≤ 10000; rw [undefs_len]; omega)
                (by show W.ownsRow 0 3 1 _ (undefs k).length (intsV (undefs k)); rw [e1, undefs_len, undefs_v]; exact own_low hown (Nat.zero_le _))
                (fun z hz e => by
                  have := D.rep.lt z.row (.inr (.inr (.inl ⟨z, hz, rfl⟩)))
                  have e : z.row = g1 := e
                  omega)
              rw [e1] at h1
              unfold Hp.ptr at h1
              rw [HB2.out] at h1
              refine h1.mono ?_
              rintro e w' ⟨rfl, v1, hR, hT, hv⟩
              refine ⟨rfl, _, did_put (D.q hq) hR hT hv (by have := D.turn.size; show _ ≤ g1; omega), HB2.out, HMU2.out, ?_, ?_⟩
              · rw [m_put, HM2.out]
              · obtain ⟨n1, n2⟩ := HI2.out.near
                refine ⟨?_, fun x hx => ?_⟩
                · show (insAt h2.bks _ [_]).length ≤ 100
                  rw [(insAt_perm _ _ _).length_eq]
                  have := HI2.out.len
                  simp only [Hp.m, List.length_map] at this
                  simp
                  omega
                · rcases insAt_mem.1 hx with rfl | hx
                  · refine ⟨ha0, ?_, ?_⟩
                    · show a0 ≤ 10000
                      omega
                    · show (undefs k).length ≤ 10000
                      rw [undefs_len]
                      omega
                  · exact n2 x hx
            have HNT : Hid (∀ W h3, HpR W h3 → h3.blk = g → Near h3.bks → Calls Tryz.prog 64 #[.pointer (some ⟨g, 0, none⟩)] W (NotePost W h3)) := fun W h3 hR e hn => by
              have := note_any h3 W hR hn
              unfold Hp.ptr at this
              rw [e] at this
              exact this
            have FIN0 : Hid (∀ W W' h3, Did w h W h3 → h3.blk = g → h3.m = putM (countM h.m) (a0, undefs k) → Did W h3 W' { h3 with peak := max h3.peak (used (h3.bks.map (·.pb))) } → Act2 r w h (.returned (.tuple #[.int .i64 a0, .int .i64 0])) (W'.setCell ⟨g, 0, none⟩ (.int .i32 0))) := fun W W' h3 D e e2 D2 => by
              rw [HR.out, hr1]
              refine (D.trans D2).out2 (r := (noteM (putM (countM h.m) (a0, undefs k)), a0, 0)) g e.symm ?_
              rw [m_note, e2]
            clear HR HNM HNF HN hN64 HRO h64 hr1 hsz hmax ha0 ha1
            go_enter_defers Tryz.func9, Tryz.ntmps9
            go_wp2_with (go_at_call 57; refine (Go.MuLone.lock_free muLib ⟨g, 0, none⟩ _ c0 f0).mono ?_; rintro e w' ⟨rfl, rfl⟩)
            refine (HIS.out _).mono ?_
            rintro e w2 ⟨rfl, rfl⟩
            go_wp2_with fail
            rw [← HW1.out]
            refine (HIA.out w1).mono ?_
            rintro e w3 ⟨rfl, hq3⟩
            go_wp2_with fail
            refine (HC4.out w3 hq3).mono ?_
            rintro e w4 ⟨rfl, hd4⟩
            have k5 := K5.out _ hd4
            have k6 := K6.out _ hd4
            have HD4 := hide hd4
            clear hd4
            go_wp2_with fail
            refine (HRM.out w4 HD4.out.rep).mono ?_
            rintro e w5 ⟨a, ok, rfl, hok, hae, hq5⟩
            obtain rfl : ok = true := hok
            obtain rfl := hae _ rfl
            have HD5 := hide (HD4.out.q hq5)
            go_wp2_with fail
            refine (HFR.out w5).mono ?_
            rintro e w6 ⟨g1, rfl, hown6, hq6⟩
            have HO6 := hide hown6
            clear hown6
            go_wp2_with fail
            refine (HPT.out w6 w5 g1 hq6 HD5.out HO6.out).mono ?_
            rintro e w7 ⟨rfl, h3, hd7, hb7, hm7, hmm7, hn7⟩
            have HD7 := hide hd7
            have HMM7 := hide hmm7
            have HNR7 := hide hn7
            have HB7 := hide hb7
            have HM7 := hide hm7
            clear hd7 hmm7 hn7 hb7 hm7
            go_wp2_with fail
            refine (HNT.out w7 h3 HD7.out.rep HB7.out HNR7.out).mono ?_
            rintro e w8 ⟨rfl, hd8⟩
            have FIN := hide (FIN0.out _ _ _ HD7.out HB7.out HMM7.out hd8)
            have KMU := hide (KM.out _ _ (HD7.out.trans hd8) HB7.out HM7.out).1
            have KFR := hide (KM.out _ _ (HD7.out.trans hd8) HB7.out HM7.out).2
            clear hd8
            go_wp2_with fail
            refine leaves_cons (f := 58) (args := #[.pointer (some ⟨g, 0, none⟩)]) (by simp) (by simp [go_sem]) ?_
            refine (Go.MuLone.unlock_deferred muLib ⟨g, 0, none⟩ .returning _ KMU.out KFR.out).mono ?_
            rintro e u' w9 ⟨rfl, rfl, rfl⟩
            refine ⟨_, results_tmp2 rfl _ _ _, ?_⟩
            exact FIN.out
end Go.Proofs.YtdaklffbfadghaaGreat

namespace Go.Proofs.YtdaklffbfadghaaGreat
open Go.RowKit HP
set_option linter.unusedVariables false
theorem at_eq {m : HM} (F : Fit m.size m.live) {at_ : Int} (h : has m.live at_ = true) : ∃ x, m.live[below m.live at_]? = some x ∧ x.1 = at_ ∧ atM m at_ = x := by
  obtain ⟨x, hx, e⟩ := (has_iff F at_).1 h
  exact ⟨x, hx, e, by unfold atM; rw [hx]; rfl⟩
set_option maxHeartbeats 4000000 in
set_option maxRecDepth 100000 in
theorem free_act (h : Hp) (at_ : Int) (w : World) (H : HpR w h) (I : Inv h.m) (hmu : h.mu = 0) (ha0 : -9223372036854775808 ≤ at_) (ha1 : at_ ≤ 9223372036854775807) :
    Calls Tryz.prog 108 #[h.ptr, .int .i64 at_] w (Act1 (freeM h.m at_) w h) := by
  have c0 := H.mu0
  rw [hmu] at c0
  have f0 := H.free 0
  obtain ⟨w1, hw1⟩ : ∃ w1, w1 = w.setCell ⟨h.blk, 0, none⟩ (.int .i32 1) := ⟨_, rfl⟩
  have D1 : Did w h w1 (locked h) := by rw [hw1]; exact (Did.refl H).lock 1
  obtain ⟨r, hr⟩ : ∃ r, r = freeM h.m at_ := ⟨_, rfl⟩
  rw [← hr]
  unfold Hp.ptr
  obtain ⟨g, hg⟩ : ∃ g, g = h.blk := ⟨_, rfl⟩
  rw [← hg] at c0 f0 hw1 ⊢
  have KM : Hid (∀ W h3, Did w h W h3 → h3.blk = g → h3.mu = 1 → W.cell? ⟨g, 0, none⟩ = some (.int .i32 1) ∧ W.frozen? ⟨g, 0, none⟩ = false) := fun W h3 D e1 e2 => D.mine0 g e1.symm e2
  have HI := hide I
  have HW1 := hide hw1
  have HR := hide hr
  have HG := hide hg
  have HD1 := hide D1
  clear I H hw1 hr hg D1
  have HFD : Hid (∀ W, Q w1 W → Calls Tryz.prog 96 #[.pointer (some ⟨g, 4, none⟩), .int .i64 at_] W (FindPost h.m.live at_ W)) := fun W hq => by
    have := find_any (locked h) at_ W (HD1.out.rep.q hq) (HI.out.near.1) HI.out.fit ha0 ha1
    unfold Hp.bptr at this
    rw [HG.out]
    exact this
  cases hh : has h.m.live at_
  · rw [show freeM h.m at_ = (h.m, 9) by unfold freeM; rw [if_pos hh]] at HR
    have FIN0 : Hid (∀ W, Q w1 W → Act1 r w h (.returned (.int .i64 9)) (W.setCell ⟨g, 0, none⟩ (.int .i32 0))) := fun W hq => by
      rw [HR.out]
      exact (HD1.out.q hq).out1 (r := (h.m, 9)) g HG.out rfl
    clear HR
    go_enter_defers Tryz.func108, Tryz.ntmps108
    go_wp2_with (go_at_call 57; refine (Go.MuLone.lock_free muLib ⟨g, 0, none⟩ _ c0 f0).mono ?_; rintro e w' ⟨rfl, rfl⟩)
    go_wp2_with fail
    rw [← HW1.out]
    refine (HFD.out w1 (Q.refl _)).mono ?_
    rintro e w2 ⟨k, rfl, hk1, hk2, hq2⟩
    rw [hh]
    clear hh hk1 hk2
    have FIN := hide (FIN0.out _ hq2)
    have KMU := hide (KM.out _ _ (HD1.out.q hq2) HG.out.symm rfl).1
    have KFR := hide (KM.out _ _ (HD1.out.q hq2) HG.out.symm rfl).2
    go_wp2_with fail
    refine leaves_cons (f := 58) (args := #[.pointer (some ⟨g, 0, none⟩)]) (by simp) (by simp [go_sem]) ?_
    refine (Go.MuLone.unlock_deferred muLib ⟨g, 0, none⟩ .returning _ KMU.out KFR.out).mono ?_
    rintro e u' w9 ⟨rfl, rfl, rfl⟩
    refine ⟨_, results_tmp rfl _ _ _, ?_⟩
    exact FIN.out
  · obtain ⟨x, hx, hxa, hat⟩ := at_eq HI.out.fit hh
    rw [show freeM h.m at_ = (takeM h.m (below h.m.live at_) x, 0) by unfold freeM; rw [if_neg (by rw [hh]; simp), hat]] at HR
    obtain ⟨y, hy, hyp⟩ : ∃ y, h.bks[below h.m.live at_]? = some y ∧ y.pb = x := by
      have hx' : (h.bks.map (·.pb))[below h.m.live at_]? = some x := hx
      rw [List.getElem?_map] at hx'
      cases e : h.bks[below h.m.live at_]? with
      | none => rw [e] at hx'; cases hx'
      | some y => rw [e] at hx'; exact ⟨y, rfl, by injection hx'⟩
    have HTK : Hid (∀ W, Q w1 W → Calls Tryz.prog 127 #[.pointer (some ⟨g, 0, none⟩), .int .i64 at_] W fun e w' => ∃ u h3, e = .returned u ∧ Did w h w' h3 ∧ h3.blk = g ∧ h3.mu = 1 ∧ Act1 r w h (.returned (.int .i64 0)) (w'.setCell ⟨g, 0, none⟩ (.int .i32 0))) := fun W hq => by
      have h1 := take_any (locked h) (below h.m.live at_) y W (HD1.out.rep.q hq) HI.out.kind HI.out.near.1 HI.out.fit hy
      unfold Hp.ptr at h1
      rw [hyp, hxa] at h1
      rw [HG.out]
      refine h1.mono ?_
      rintro e w' ⟨rfl, v, hd⟩
      have hd2 := (HD1.out.q hq).trans hd
      refine ⟨_, _, rfl, hd2, rfl, rfl, ?_⟩
      rw [HR.out]
      refine hd2.out1 (r := (takeM h.m (below h.m.live at_) x, 0)) h.blk rfl ?_
      rw [m_take, hyp]
      rfl
    clear HR hx hxa hat hy hyp
    go_enter_defers Tryz.func108, Tryz.ntmps108
    go_wp2_with (go_at_call 57; refine (Go.MuLone.lock_free muLib ⟨g, 0, none⟩ _ c0 f0).mono ?_; rintro e w' ⟨rfl, rfl⟩)
    go_wp2_with fail
    rw [← HW1.out]
    refine (HFD.out w1 (Q.refl _)).mono ?_
    rintro e w2 ⟨k, rfl, hk1, hk2, hq2⟩
    rw [hh]
    clear hh hk1 hk2
    go_wp2_with fail
    refine (HTK.out _ hq2).mono ?_
    rintro e w3 ⟨u, h3, rfl, hd3, hb3, hm3, hfin⟩
    have FIN := hide hfin
    have KMU := hide (KM.out _ _ hd3 hb3 hm3).1
    have KFR := hide (KM.out _ _ hd3 hb3 hm3).2
    clear hfin hd3 hb3 hm3
    go_wp2_with fail
    refine leaves_cons (f := 58) (args := #[.pointer (some ⟨g, 0, none⟩)]) (by simp) (by simp [go_sem]) ?_
    refine (Go.MuLone.unlock_deferred muLib ⟨g, 0, none⟩ .returning _ KMU.out KFR.out).mono ?_
    rintro e u' w9 ⟨rfl, rfl, rfl⟩
    refine ⟨_, results_tmp rfl _ _ _, ?_⟩
    exact FIN.out
end Go.Proofs.YtdaklffbfadghaaGreat
