/- The methods of a heap's way: reset, mark, stays, clone. Conditions: the heap reads so, its numbers are within bounds. -/
import Derived.Test.YtegpkcbmgjoicaaGreatHqG
namespace Go.Proofs.YtegpkcbmgjoicaaGreat
open Go.RowKit HP
set_option linter.unusedVariables false
theorem disp_stays0 {h : Hp} (e : h.kind = 0) : Disp h "mandrel/heap.stays" 118 (.agg #[h.bptr]) := ⟨_, _, Hp.way0 e, fun w => by kernel_rfl, fun args w => Go.MuLone.run_callFunc_enter Tryz.func118 (by kernel_rfl) rfl args w⟩
theorem disp_stays1 {h : Hp} (e : h.kind = 1) : Disp h "mandrel/heap.stays" 128 (.pointer (some ⟨h.wb, 0, none⟩)) := ⟨_, _, Hp.way1 e, fun w => by kernel_rfl, fun args w => Go.MuLone.run_callFunc_enter Tryz.func128 (by kernel_rfl) rfl args w⟩
theorem disp_stays2 {h : Hp} (e : h.kind = 2) : Disp h "mandrel/heap.stays" 128 (.pointer (some ⟨h.wb, 0, none⟩)) := ⟨_, _, Hp.way2 e, fun w => by kernel_rfl, fun args w => Go.MuLone.run_callFunc_enter Tryz.func128 (by kernel_rfl) rfl args w⟩
theorem disp_stays3 {h : Hp} (e : h.kind = 3) : Disp h "mandrel/heap.stays" 139 (.agg #[h.bptr, .int .i64 h.piece]) := ⟨_, _, Hp.way3 e, fun w => by kernel_rfl, fun args w => Go.MuLone.run_callFunc_enter Tryz.func139 (by kernel_rfl) rfl args w⟩
theorem disp_mark0 {h : Hp} (e : h.kind = 0) : Disp h "mandrel/heap.mark" 115 (.agg #[h.bptr]) := ⟨_, _, Hp.way0 e, fun w => by kernel_rfl, fun args w => Go.MuLone.run_callFunc_enter Tryz.func115 (by kernel_rfl) rfl args w⟩
theorem disp_mark1 {h : Hp} (e : h.kind = 1) : Disp h "mandrel/heap.mark" 125 (.pointer (some ⟨h.wb, 0, none⟩)) := ⟨_, _, Hp.way1 e, fun w => by kernel_rfl, fun args w => Go.MuLone.run_callFunc_enter Tryz.func125 (by kernel_rfl) rfl args w⟩
theorem disp_mark2 {h : Hp} (e : h.kind = 2) : Disp h "mandrel/heap.mark" 125 (.pointer (some ⟨h.wb, 0, none⟩)) := ⟨_, _, Hp.way2 e, fun w => by kernel_rfl, fun args w => Go.MuLone.run_callFunc_enter Tryz.func125 (by kernel_rfl) rfl args w⟩
theorem disp_mark3 {h : Hp} (e : h.kind = 3) : Disp h "mandrel/heap.mark" 136 (.agg #[h.bptr, .int .i64 h.piece]) := ⟨_, _, Hp.way3 e, fun w => by kernel_rfl, fun args w => Go.MuLone.run_callFunc_enter Tryz.func136 (by kernel_rfl) rfl args w⟩
theorem disp_reset0 {h : Hp} (e : h.kind = 0) : Disp h "mandrel/heap.reset" 116 (.agg #[h.bptr]) := ⟨_, _, Hp.way0 e, fun w => by kernel_rfl, fun args w => Go.MuLone.run_callFunc_enter Tryz.func116 (by kernel_rfl) rfl args w⟩
theorem disp_reset1 {h : Hp} (e : h.kind = 1) : Disp h "mandrel/heap.reset" 126 (.pointer (some ⟨h.wb, 0, none⟩)) := ⟨_, _, Hp.way1 e, fun w => by kernel_rfl, fun args w => Go.MuLone.run_callFunc_enter Tryz.func126 (by kernel_rfl) rfl args w⟩
theorem disp_reset2 {h : Hp} (e : h.kind = 2) : Disp h "mandrel/heap.reset" 126 (.pointer (some ⟨h.wb, 0, none⟩)) := ⟨_, _, Hp.way2 e, fun w => by kernel_rfl, fun args w => Go.MuLone.run_callFunc_enter Tryz.func126 (by kernel_rfl) rfl args w⟩
theorem disp_reset3 {h : Hp} (e : h.kind = 3) : Disp h "mandrel/heap.reset" 137 (.agg #[h.bptr, .int .i64 h.piece]) := ⟨_, _, Hp.way3 e, fun w => by kernel_rfl, fun args w => Go.MuLone.run_callFunc_enter Tryz.func137 (by kernel_rfl) rfl args w⟩
theorem disp_clone0 {h : Hp} (e : h.kind = 0) : Disp h "mandrel/heap.clone" 113 (.agg #[h.bptr]) := ⟨_, _, Hp.way0 e, fun w => by kernel_rfl, fun args w => Go.MuLone.run_callFunc_enter Tryz.func113 (by kernel_rfl) rfl args w⟩
theorem disp_clone1 {h : Hp} (e : h.kind = 1) : Disp h "mandrel/heap.clone" 123 (.pointer (some ⟨h.wb, 0, none⟩)) := ⟨_, _, Hp.way1 e, fun w => by kernel_rfl, fun args w => Go.MuLone.run_callFunc_enter Tryz.func123 (by kernel_rfl) rfl args w⟩
theorem disp_clone2 {h : Hp} (e : h.kind = 2) : Disp h "mandrel/heap.clone" 131 (.pointer (some ⟨h.wb, 0, none⟩)) := ⟨_, _, Hp.way2 e, fun w => by kernel_rfl, fun args w => Go.MuLone.run_callFunc_enter Tryz.func131 (by kernel_rfl) rfl args w⟩
theorem disp_clone3 {h : Hp} (e : h.kind = 3) : Disp h "mandrel/heap.clone" 134 (.agg #[h.bptr, .int .i64 h.piece]) := ⟨_, _, Hp.way3 e, fun w => by kernel_rfl, fun args w => Go.MuLone.run_callFunc_enter Tryz.func134 (by kernel_rfl) rfl args w⟩
/-! reset -/
def canReset (h : Hp) : Bool := decide (h.kind = 1 ∨ h.kind = 2)
def ResetPost (w : World) (h : Hp) (e : Ending) (w' : World) : Prop := e = .returned (.bool (canReset h)) ∧ Did w h w' { h with top := if canReset h then 0 else h.top }
theorem ResetPost.no {w w' : World} {h : Hp} (H : HpR w h) (hq : Q w w') (hn : canReset h = false) : ResetPost w h (.returned (.bool false)) w' := ⟨by rw [hn], by rw [hn]; exact Did.of_q H hq⟩
theorem ff_reset (h : Hp) (w : World) (H : HpR w h) (hn : canReset h = false) : Calls Tryz.prog 116 #[.agg #[h.bptr]] w (ResetPost w h) := by
  have HH := hide (fun W (hq : Q w W) => ResetPost.no H hq hn)
  clear H hn
  go_enter Tryz.func116, Tryz.ntmps116
  go_wp2_with fail
  go_ret
  exact HH.out _ ((Q.refl w).alloc _)
theorem pool_reset (h : Hp) (w : World) (H : HpR w h) (hn : canReset h = false) : Calls Tryz.prog 137 #[.agg #[h.bptr, .int .i64 h.piece]] w (ResetPost w h) := by
  have HH := hide (fun W (hq : Q w W) => ResetPost.no H hq hn)
  clear H hn
  go_enter Tryz.func137, Tryz.ntmps137
  go_wp2_with fail
  go_ret
  exact HH.out _ ((Q.refl w).alloc _)
theorem bump_reset (h : Hp) (w : World) (H : HpR w h) (hk : h.kind = 1 ∨ h.kind = 2) : Calls Tryz.prog 126 #[.pointer (some ⟨h.wb, 0, none⟩)] w (ResetPost w h) := by
  obtain ⟨c0, c1, f1, hl⟩ := H.wcell hk
  have hc : canReset h = true := by unfold canReset; exact decide_eq_true hk
  have HH : Hid (ResetPost w h (.returned (.bool true)) (w.setCell ⟨h.wb, 1, none⟩ (.int .i64 0))) := ⟨by rw [hc], by rw [hc]; exact (Did.refl H).setTop hk 0⟩
  obtain ⟨q, hq⟩ : ∃ q, q = h.wb := ⟨_, rfl⟩
  rw [← hq] at c0 c1 f1 hl HH ⊢
  clear H hk hq hc
  go_enter Tryz.func126, Tryz.ntmps126
  go_wp2_with fail
  go_ret
  exact HH.out
theorem reset_any (h : Hp) (hk : 0 ≤ h.kind ∧ h.kind ≤ 3) : ∃ f rcv, Disp h "mandrel/heap.reset" f rcv ∧ ∀ w, HpR w h → Calls Tryz.prog f #[rcv] w (ResetPost w h) := by
  rcases kind_cases hk with e | e | e | e
  · exact ⟨_, _, disp_reset0 e, fun w H => ff_reset h w H (by unfold canReset; exact decide_eq_false (by omega))⟩
  · exact ⟨_, _, disp_reset1 e, fun w H => bump_reset h w H (.inl e)⟩
  · exact ⟨_, _, disp_reset2 e, fun w H => bump_reset h w H (.inr e)⟩
  · exact ⟨_, _, disp_reset3 e, fun w H => pool_reset h w H (by unfold canReset; exact decide_eq_false (by omega))⟩
/-! mark -/
def markM (m : HM) : Int := if m.kind = 1 ∨ m.kind = 2 then m.top else 0
def MarkPost (h : Hp) (w : World) (e : Ending) (w' : World) : Prop := e = .returned (.int .i64 (markM h.m)) ∧ Q w w'
theorem mark_any (h : Hp) (hk : 0 ≤ h.kind ∧ h.kind ≤ 3) : ∃ f rcv, Disp h "mandrel/heap.mark" f rcv ∧ ∀ w, HpR w h → Calls Tryz.prog f #[rcv] w (MarkPost h w) := by
  have hff : ∀ (bp : Value) w, Calls Tryz.prog 115 #[.agg #[bp]] w fun e w' => e = .returned (.int .i64 0) ∧ Q w w' := fun bp w => by
    go_enter Tryz.func115, Tryz.ntmps115
    go_wp2_with fail
    go_ret
    exact ⟨rfl, (Q.refl w).alloc _⟩
  have hpl : ∀ (bp : Value) p w, Calls Tryz.prog 136 #[.agg #[bp, .int .i64 p]] w fun e w' => e = .returned (.int .i64 0) ∧ Q w w' := fun bp p w => by
    go_enter Tryz.func136, Tryz.ntmps136
    go_wp2_with fail
    go_ret
    exact ⟨rfl, (Q.refl w).alloc _⟩
  have hbm : ∀ (q : Nat) (t : Int) w, q < w.heap.size → w.cell? ⟨q, 1, none⟩ = some (.int .i64 t) → Calls Tryz.prog 125 #[.pointer (some ⟨q, 0, none⟩)] w fun e w' => e = .returned (.int .i64 t) ∧ Q w w' := fun q t w hl c1 => by
    go_enter Tryz.func125, Tryz.ntmps125
    go_wp2_with fail
    go_ret
    exact ⟨rfl, Q.refl w⟩
  have h0 : ¬ (h.kind = 1 ∨ h.kind = 2) → markM h.m = 0 := fun e => if_neg e
  have h1 : (h.kind = 1 ∨ h.kind = 2) → markM h.m = h.top := fun e => if_pos e
  rcases kind_cases hk with e | e | e | e
  · exact ⟨_, _, disp_mark0 e, fun w H => by unfold MarkPost; rw [h0 (by omega)]; exact hff _ w⟩
  · exact ⟨_, _, disp_mark1 e, fun w H => by unfold MarkPost; rw [h1 (.inl e)]; obtain ⟨-, c1, -, hl⟩ := H.wcell (.inl e); exact hbm _ _ w hl c1⟩
  · exact ⟨_, _, disp_mark2 e, fun w H => by unfold MarkPost; rw [h1 (.inr e)]; obtain ⟨-, c1, -, hl⟩ := H.wcell (.inr e); exact hbm _ _ w hl c1⟩
  · exact ⟨_, _, disp_mark3 e, fun w H => by unfold MarkPost; rw [h0 (by omega)]; exact hpl _ _ w⟩
/-! stays -/
def staysM (m : HM) (x : PB) (n : Int) : Bool :=
  decide (n ≤ (x.2.length : Int)) || (if m.kind = 0 then freeB m.size m.live x.1 (x.1 + n) x.1 else if m.kind = 3 then decide (n ≤ m.piece) else decide (pend x = m.top) && decide (x.1 + n ≤ m.size))
def StaysPost (b : Bool) (w : World) (e : Ending) (w' : World) : Prop := e = .returned (.bool b) ∧ Q w w'
set_option maxHeartbeats 1000000 in
theorem ff_stays (h : Hp) (x n : Int) (A : Option Addr) (l c : Nat) (w : World) (H : HpR w h) (hN : Near h.bks) (hx0 : 0 ≤ x) (hx1 : x ≤ 10000) (hn0 : 1 ≤ n) (hn1 : n ≤ 4096) (hl : l ≤ 10000) :
    Calls Tryz.prog 118 #[.agg #[h.bptr], .agg #[.int .i64 x, .slice A l c], .int .i64 n] w (StaysPost (decide (n ≤ (l : Int)) || freeB h.size (h.bks.map (·.pb)) x (x + n) x) w) := by
  have HF : Hid (∀ W, Q w W → Calls Tryz.prog 120 #[.pointer (some ⟨h.blk, 4, none⟩), .int .i64 x, .int .i64 (x + n), .int .i64 x] W fun e w' => e = .returned (.bool (freeB h.size (h.bks.map (·.pb)) x (x + n) x)) ∧ Q W w') := fun W hq => free_any h x (x + n) x W (H.q hq) hN
  obtain ⟨b, hb⟩ : ∃ b, b = freeB h.size (h.bks.map (·.pb)) x (x + n) x := ⟨_, rfl⟩
  rw [← hb] at HF ⊢
  unfold Hp.bptr
  obtain ⟨g, hg⟩ : ∃ g, g = h.blk := ⟨_, rfl⟩
  rw [← hg] at HF ⊢
  have hli : (l : Int) ≤ 10000 := by omega
  clear H hN hb hg
  cases hd : decide (n ≤ (l : Int))
  · go_enter Tryz.func118, Tryz.ntmps118
    go_wp2_with fail
    refine (HF.out _ (by repeat (first | exact Q.refl _ | assumption | refine Q.drew ?_ | refine Q.drewN ?_ _ | refine Q.alloc ?_ _ | refine Q.set ?_ (by first | (simp; done) | (simp; omega) | omega) _ | refine Q.trans ?_ (by assumption)))).mono ?_
    rintro e w1 ⟨rfl, hq1⟩
    go_wp2_with fail
    go_ret
    exact ⟨rfl, Q.trans (by repeat (first | exact Q.refl _ | assumption | refine Q.drew ?_ | refine Q.drewN ?_ _ | refine Q.alloc ?_ _ | refine Q.set ?_ (by first | (simp; done) | (simp; omega) | omega) _ | refine Q.trans ?_ (by assumption))) hq1⟩
  · go_enter Tryz.func118, Tryz.ntmps118
    go_wp2_with fail
    go_ret
    exact ⟨rfl, (by repeat (first | exact Q.refl _ | assumption | refine Q.drew ?_ | refine Q.drewN ?_ _ | refine Q.alloc ?_ _ | refine Q.set ?_ (by first | (simp; done) | (simp; omega) | omega) _ | refine Q.trans ?_ (by assumption)))⟩
theorem pool_stays (bp : Value) (p x n : Int) (A : Option Addr) (l c : Nat) (w : World) (hl : l ≤ 10000) :
    Calls Tryz.prog 139 #[.agg #[bp, .int .i64 p], .agg #[.int .i64 x, .slice A l c], .int .i64 n] w (StaysPost (decide (n ≤ (l : Int)) || decide (n ≤ p)) w) := by
  have hli : (l : Int) ≤ 10000 := by omega
  cases hd : decide (n ≤ (l : Int))
  · cases hd2 : decide (n ≤ p)
    · go_enter Tryz.func139, Tryz.ntmps139
      go_wp2_with fail
      go_ret
      exact ⟨rfl, (by repeat (first | exact Q.refl _ | assumption | refine Q.drew ?_ | refine Q.drewN ?_ _ | refine Q.alloc ?_ _ | refine Q.set ?_ (by first | (simp; done) | (simp; omega) | omega) _ | refine Q.trans ?_ (by assumption)))⟩
    · go_enter Tryz.func139, Tryz.ntmps139
      go_wp2_with fail
      go_ret
      exact ⟨rfl, (by repeat (first | exact Q.refl _ | assumption | refine Q.drew ?_ | refine Q.drewN ?_ _ | refine Q.alloc ?_ _ | refine Q.set ?_ (by first | (simp; done) | (simp; omega) | omega) _ | refine Q.trans ?_ (by assumption)))⟩
  · go_enter Tryz.func139, Tryz.ntmps139
    go_wp2_with fail
    go_ret
    exact ⟨rfl, (by repeat (first | exact Q.refl _ | assumption | refine Q.drew ?_ | refine Q.drewN ?_ _ | refine Q.alloc ?_ _ | refine Q.set ?_ (by first | (simp; done) | (simp; omega) | omega) _ | refine Q.trans ?_ (by assumption)))⟩
set_option maxHeartbeats 2000000 in
set_option maxRecDepth 100000 in
theorem bump_stays (h : Hp) (x n : Int) (A : Option Addr) (l c : Nat) (w : World) (H : HpR w h) (hk : h.kind = 1 ∨ h.kind = 2) (hx0 : 0 ≤ x) (hx1 : x ≤ 10000) (hn0 : 1 ≤ n) (hn1 : n ≤ 4096) (hl : l ≤ 10000) (ht : 0 ≤ h.top ∧ h.top ≤ 10000) :
    Calls Tryz.prog 128 #[.pointer (some ⟨h.wb, 0, none⟩), .agg #[.int .i64 x, .slice A l c], .int .i64 n] w (StaysPost (decide (n ≤ (l : Int)) || (decide (x + (l : Int) = h.top) && decide (x + n ≤ h.size))) w) := by
  obtain ⟨c0, c1, f1, hlw⟩ := H.wcell hk
  have hb := blk_lt H.cells
  have k4 := H.k4
  obtain ⟨q, hq⟩ : ∃ q, q = h.wb := ⟨_, rfl⟩
  obtain ⟨g, hg⟩ : ∃ g, g = h.blk := ⟨_, rfl⟩
  obtain ⟨t, hte⟩ : ∃ t, t = h.top := ⟨_, rfl⟩
  obtain ⟨sz, hsz⟩ : ∃ sz, sz = h.size := ⟨_, rfl⟩
  rw [← hq] at c0 c1 f1 hlw ⊢
  rw [← hg] at c0 hb k4
  rw [← hte] at c1 ht ⊢
  rw [← hsz] at k4 ⊢
  have hli : (l : Int) ≤ 10000 := by omega
  have HE := fun W => hide (end_any x A l c W hx0 (by omega) (by omega))
  obtain ⟨en, hen⟩ : ∃ en, en = x + (l : Int) := ⟨_, rfl⟩
  rw [← hen] at HE ⊢
  clear H hk hq hg hte hsz f1 hen
  obtain ⟨w1, hw1⟩ : ∃ w1, w.alloc (.cells #[.int .i64 x, .slice A l c] 90) = w1 := ⟨_, rfl⟩
  have hq1 : Q w w1 := by rw [← hw1]; exact (Q.refl w).alloc _
  have d0 : w1.cell? ⟨w.heap.size, 0, none⟩ = some (.int .i64 x) := by rw [← hw1, cell_new]; rfl
  have d1 : w1.cell? ⟨w.heap.size, 1, none⟩ = some (.slice A l c) := by rw [← hw1, cell_new]; rfl
  have hs1 : w.heap.size < w1.heap.size := by rw [← hw1]; simp
  have c0' := (hq1.facts.1 q 0 hlw).trans c0
  have c1' := (hq1.facts.1 q 1 hlw).trans c1
  have k4' := (hq1.facts.1 g 4 hb).trans k4
  have hgl : g < w1.heap.size := by omega
  have hql : q < w1.heap.size := by omega
  have HW := hide hw1
  clear hw1 c0 c1 k4
  cases hd : decide (n ≤ (l : Int))
  · by_cases he : en = t
    · have he1 : (en == t) = true := by simpa using he
      have HEE := hide he
      cases hd2 : decide (x + n ≤ sz)
      · clear he
        go_enter Tryz.func128, Tryz.ntmps128
        go_wp2_with fail
        rw [HW.out]
        have hxc := ext_cell
        refine wp_region_ext (by kernel_rfl) (by kernel_rfl) ?_
        repeat (go_big_quiet_step (((go_at_call 49; exact ext_call ((HE _).out)))))
        clear hxc
        refine wpQuiet_nil ?_
        intro w2 hww2
        have hqw2 := q_of_ext hww2
        clear hww2
        obtain ⟨hcw2, hfw2, hzw2⟩ := hqw2.facts
        try simp at hzw2
        try have hs0w2 : w.heap.size < w2.heap.size := by omega
        try have hs1w2 : w.heap.size + 1 < w2.heap.size := by omega
        go_wp2_with fail
        go_ret
        exact ⟨by simp [HEE.out], hq1.trans hqw2⟩
      · clear he
        go_enter Tryz.func128, Tryz.ntmps128
        go_wp2_with fail
        rw [HW.out]
        have hxc := ext_cell
        refine wp_region_ext (by kernel_rfl) (by kernel_rfl) ?_
        repeat (go_big_quiet_step (((go_at_call 49; exact ext_call ((HE _).out)))))
        clear hxc
        refine wpQuiet_nil ?_
        intro w2 hww2
        have hqw2 := q_of_ext hww2
        clear hww2
        obtain ⟨hcw2, hfw2, hzw2⟩ := hqw2.facts
        try simp at hzw2
        try have hs0w2 : w.heap.size < w2.heap.size := by omega
        try have hs1w2 : w.heap.size + 1 < w2.heap.size := by omega
        go_wp2_with fail
        go_ret
        exact ⟨by simp [HEE.out], hq1.trans hqw2⟩
    · have he1 : (en == t) = false := by simpa using he
      have HEE := hide he
      clear he
      go_enter Tryz.func128, Tryz.ntmps128
      go_wp2_with fail
      rw [HW.out]
      have hxc := ext_cell
      refine wp_region_ext (by kernel_rfl) (by kernel_rfl) ?_
      repeat (go_big_quiet_step (((go_at_call 49; exact ext_call ((HE _).out)))))
      clear hxc
      refine wpQuiet_nil ?_
      intro w2 hww2
      have hqw2 := q_of_ext hww2
      clear hww2
      obtain ⟨hcw2, hfw2, hzw2⟩ := hqw2.facts
      try simp at hzw2
      try have hs0w2 : w.heap.size < w2.heap.size := by omega
      try have hs1w2 : w.heap.size + 1 < w2.heap.size := by omega
      go_wp2_with fail
      go_ret
      exact ⟨by simp [HEE.out], hq1.trans hqw2⟩
  · go_enter Tryz.func128, Tryz.ntmps128
    go_wp2_with fail
    rw [HW.out]
    have hxc := ext_cell
    refine wp_region_ext (by kernel_rfl) (by kernel_rfl) ?_
    repeat (go_big_quiet_step ((fail)))
    clear hxc
    refine wpQuiet_nil ?_
    intro w2 hww2
    have hqw2 := q_of_ext hww2
    clear hww2
    obtain ⟨hcw2, hfw2, hzw2⟩ := hqw2.facts
    try simp at hzw2
    try have hs0w2 : w.heap.size < w2.heap.size := by omega
    try have hs1w2 : w.heap.size + 1 < w2.heap.size := by omega
    go_wp2_with fail
    go_ret
    exact ⟨by simp, hq1.trans hqw2⟩
theorem stays_any (h : Hp) (O : Ok h) : ∃ f rcv, Disp h "mandrel/heap.stays" f rcv ∧ ∀ (x : PB) (n : Int) (A : Option Addr) (c : Nat) (w : World), HpR w h → 0 ≤ x.1 → x.1 ≤ 10000 → x.2.length ≤ 10000 → 1 ≤ n → n ≤ 4096 →
    Calls Tryz.prog f #[rcv, .agg #[.int .i64 x.1, .slice A x.2.length c], .int .i64 n] w (StaysPost (staysM h.m x n) w) := by
  rcases kind_cases O.kind with e | e | e | e
  · refine ⟨_, _, disp_stays0 e, fun x n A c w H a b d f g => ?_⟩
    rw [show staysM h.m x n = (decide (n ≤ (x.2.length : Int)) || freeB h.size (h.bks.map (·.pb)) x.1 (x.1 + n) x.1) by unfold staysM; rw [if_pos (show h.m.kind = 0 from e)]; rfl]
    exact ff_stays h x.1 n A _ c w H O.near a b f g d
  · refine ⟨_, _, disp_stays1 e, fun x n A c w H a b d f g => ?_⟩
    rw [show staysM h.m x n = (decide (n ≤ (x.2.length : Int)) || (decide (x.1 + (x.2.length : Int) = h.top) && decide (x.1 + n ≤ h.size))) by unfold staysM; rw [if_neg (show ¬ h.m.kind = 0 by show ¬ h.kind = 0; omega), if_neg (show ¬ h.m.kind = 3 by show ¬ h.kind = 3; omega)]; rfl]
    exact bump_stays h x.1 n A _ c w H (.inl e) a b f g d ⟨O.top.1, by have := O.top.2; omega⟩
  · refine ⟨_, _, disp_stays2 e, fun x n A c w H a b d f g => ?_⟩
    rw [show staysM h.m x n = (decide (n ≤ (x.2.length : Int)) || (decide (x.1 + (x.2.length : Int) = h.top) && decide (x.1 + n ≤ h.size))) by unfold staysM; rw [if_neg (show ¬ h.m.kind = 0 by show ¬ h.kind = 0; omega), if_neg (show ¬ h.m.kind = 3 by show ¬ h.kind = 3; omega)]; rfl]
    exact bump_stays h x.1 n A _ c w H (.inr e) a b f g d ⟨O.top.1, by have := O.top.2; omega⟩
  · refine ⟨_, _, disp_stays3 e, fun x n A c w H a b d f g => ?_⟩
    rw [show staysM h.m x n = (decide (n ≤ (x.2.length : Int)) || decide (n ≤ h.piece)) by unfold staysM; rw [if_neg (show ¬ h.m.kind = 0 by show ¬ h.kind = 0; omega), if_pos (show h.m.kind = 3 from e)]; rfl]
    exact pool_stays h.bptr h.piece x.1 n A _ c w d
/-! clone -/
/-- the way of a heap at another block -/
def wayAt (h : Hp) (g wb : Nat) : Value := ({ h with blk := g, wb := wb } : Hp).way
def ClonePost (h : Hp) (g : Nat) (w : World) (e : Ending) (w' : World) : Prop :=
  ∃ wb, e = .returned (wayAt h g wb) ∧ Q w w' ∧ ((h.kind = 1 ∨ h.kind = 2) → w.heap.size ≤ wb) ∧ (h.kind = 1 → w'.heap[wb]? = some (.cells #[.pointer (some ⟨g, 4, none⟩), .int .i64 h.top] 68 (0, 0))) ∧ (h.kind = 2 → w'.heap[wb]? = some (.cells #[.pointer (some ⟨g, 4, none⟩), .int .i64 h.top] 71 (0, 0)))
theorem clone_any (h : Hp) (hk : 0 ≤ h.kind ∧ h.kind ≤ 3) : ∃ f rcv, Disp h "mandrel/heap.clone" f rcv ∧ ∀ (g : Nat) w, HpR w h → Calls Tryz.prog f #[rcv, .pointer (some ⟨g, 4, none⟩)] w (ClonePost h g w) := by
  have hff : ∀ (bp : Value) (g : Nat) w, Calls Tryz.prog 113 #[.agg #[bp], .pointer (some ⟨g, 4, none⟩)] w fun e w' => e = .returned (.iface 65 (.agg #[.pointer (some ⟨g, 4, none⟩)])) ∧ Q w w' := fun bp g w => by
    go_enter Tryz.func113, Tryz.ntmps113
    go_wp2_with fail
    go_ret
    exact ⟨rfl, (Q.refl w).alloc _⟩
  have hpl : ∀ (bp : Value) (g : Nat) (n : Int) w, Calls Tryz.prog 134 #[.agg #[bp, .int .i64 n], .pointer (some ⟨g, 4, none⟩)] w fun e w' => e = .returned (.iface 73 (.agg #[.pointer (some ⟨g, 4, none⟩), .int .i64 n])) ∧ Q w w' := fun bp g n w => by
    go_enter Tryz.func134, Tryz.ntmps134
    go_wp2_with fail
    go_ret
    exact ⟨rfl, (Q.refl w).alloc _⟩
  have hbm : ∀ (q : Nat) (g : Nat) (t : Int) w, q < w.heap.size → w.cell? ⟨q, 1, none⟩ = some (.int .i64 t) → Calls Tryz.prog 123 #[.pointer (some ⟨q, 0, none⟩), .pointer (some ⟨g, 4, none⟩)] w fun e w' => e = .returned (.iface 66 (.pointer (some ⟨w.heap.size, 0, none⟩))) ∧ Q w w' ∧ w'.heap[w.heap.size]? = some (.cells #[.pointer (some ⟨g, 4, none⟩), .int .i64 t] 68 (0, 0)) := fun q g t w hl c1 => by
    go_enter Tryz.func123, Tryz.ntmps123
    go_wp2_with fail
    go_ret
    exact ⟨rfl, (Q.refl w).alloc _, heap_alloc_new _ _⟩
  have hfx : ∀ (q : Nat) (g : Nat) (t : Int) w, q < w.heap.size → w.cell? ⟨q, 1, none⟩ = some (.int .i64 t) → Calls Tryz.prog 131 #[.pointer (some ⟨q, 0, none⟩), .pointer (some ⟨g, 4, none⟩)] w fun e w' => e = .returned (.iface 69 (.pointer (some ⟨w.heap.size, 0, none⟩))) ∧ Q w w' ∧ w'.heap[w.heap.size]? = some (.cells #[.pointer (some ⟨g, 4, none⟩), .int .i64 t] 71 (0, 0)) := fun q g t w hl c1 => by
    go_enter Tryz.func131, Tryz.ntmps131
    go_wp2_with fail
    go_ret
    exact ⟨rfl, (Q.refl w).alloc _, heap_alloc_new _ _⟩
  rcases kind_cases hk with e | e | e | e
  · refine ⟨_, _, disp_clone0 e, fun g w H => (hff _ _ w).mono ?_⟩
    rintro e' w' ⟨rfl, hq⟩
    exact ⟨0, by unfold wayAt; rw [Hp.way0 (by exact e)]; rfl, hq, fun h => by omega, fun h => by omega, fun h => by omega⟩
  · refine ⟨_, _, disp_clone1 e, fun g w H => ?_⟩
    obtain ⟨-, c1, -, hl⟩ := H.wcell (.inl e)
    refine (hbm _ g _ w hl c1).mono ?_
    rintro e' w' ⟨rfl, hq, hc⟩
    exact ⟨w.heap.size, by unfold wayAt; rw [Hp.way1 (by exact e)], hq, fun h => Nat.le_refl _, fun h => hc, fun h => by omega⟩
  · refine ⟨_, _, disp_clone2 e, fun g w H => ?_⟩
    obtain ⟨-, c1, -, hl⟩ := H.wcell (.inr e)
    refine (hfx _ g _ w hl c1).mono ?_
    rintro e' w' ⟨rfl, hq, hc⟩
    exact ⟨w.heap.size, by unfold wayAt; rw [Hp.way2 (by exact e)], hq, fun h => Nat.le_refl _, fun h => by omega, fun h => hc⟩
  · refine ⟨_, _, disp_clone3 e, fun g w H => (hpl _ _ _ w).mono ?_⟩
    rintro e' w' ⟨rfl, hq⟩
    exact ⟨0, by unfold wayAt; rw [Hp.way3 (by exact e)]; rfl, hq, fun h => by omega, fun h => by omega, fun h => by omega⟩
end Go.Proofs.YtegpkcbmgjoicaaGreat
