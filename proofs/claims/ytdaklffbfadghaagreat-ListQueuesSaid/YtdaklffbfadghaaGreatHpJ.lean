/- room: where bytes can be handed out, for each kind of heap. Conditions: the heap reads so, and its blocks are of its bytes. -/
import Derived.Test.YtdaklffbfadghaaGreatHpI
namespace Go.Proofs.YtdaklffbfadghaaGreat
open Go.RowKit HP
set_option linter.unusedVariables false
/-- the first of a, a + step, .. up to lim at which p holds -/
def scanF (p : Int → Bool) (lim step : Int) : Nat → Int → Option Int
  | 0, _ => none
  | f + 1, a => if lim < a then none else if p a then some a else scanF p lim step f (a + step)
def ffP (size : Int) (l : List PB) (n : Int) (a : Int) : Bool := freeB size l a (a + n) (-1)
def poolP (size : Int) (l : List PB) (piece align : Int) (a : Int) : Bool := decide (a % align = 0) && freeB size l a (a + piece) (-1)
def upTo (n m : Int) : Int := (n + m - 1) / m * m
def roomM (m : HM) (n align : Int) : Option Int :=
  if m.kind = 0 then scanF (ffP m.size m.live n) (m.size - n) align 5000 0
  else if m.kind = 3 then (if n ≤ m.piece then scanF (poolP m.size m.live m.piece align) (m.size - m.piece) m.piece 5000 0 else none)
  else if upTo m.top align + n ≤ m.size then some (upTo m.top align) else none
def RoomPost (r : Option Int) (w : World) (e : Ending) (w' : World) : Prop :=
  ∃ (a : Int) (ok : Bool), e = .returned (.tuple #[.int .i64 a, .bool ok]) ∧ ok = r.isSome ∧ (∀ x, r = some x → a = x) ∧ Q w w'
/-- the heap's numbers are within bounds -/
structure Ok (h : Hp) : Prop where
  kind : 0 ≤ h.kind ∧ h.kind ≤ 3
  near : Near h.bks
  fit : Fit h.size (h.bks.map (·.pb))
  top : 0 ≤ h.top ∧ h.top ≤ 5000
  piece : h.kind = 3 → 1 ≤ h.piece ∧ h.piece ≤ h.size
  peak : 0 ≤ h.peak ∧ h.peak ≤ 1000000
  calls : 0 ≤ h.calls ∧ h.calls ≤ 1000000000
  failIn : 0 ≤ h.failIn ∧ h.failIn ≤ 1000
theorem HpR.k4 {w : World} {h : Hp} (H : HpR w h) : w.cell? ⟨h.blk, 4, none⟩ = some (.int .i64 h.size) := by rw [H.cell 4]; rfl
theorem bool_eq (b c : Bool) (h : b = c) : (b = c) := h
set_option maxHeartbeats 2000000 in
theorem ff_room (h : Hp) (n align : Int) (w : World) (H : HpR w h) (O : Ok h) (hn0 : 1 ≤ n) (hn1 : n ≤ 4096) (ha0 : 1 ≤ align) (ha1 : align ≤ 16) :
    Calls Tryz.prog 160 #[.agg #[h.bptr], .int .i64 n, .int .i64 align] w (RoomPost (scanF (ffP h.size (h.bks.map (·.pb)) n) (h.size - n) align 5000 0) w) := by
  have hb := blk_lt H.cells
  have k4 := H.k4
  obtain ⟨hs0, hs1⟩ := O.fit.sz
  have HF : Hid (∀ W, Q w W → ∀ a b, Calls Tryz.prog 163 #[.pointer (some ⟨h.blk, 4, none⟩), .int .i64 a, .int .i64 b, .int .i64 (-1)] W fun e w' => e = .returned (.bool (freeB h.size (h.bks.map (·.pb)) a b (-1))) ∧ Q W w') := fun W hq a b => free_any h a b (-1) W (H.q hq) O.near
  unfold Hp.bptr
  obtain ⟨sz, hsz⟩ : ∃ sz, sz = h.size := ⟨_, rfl⟩
  obtain ⟨g, hg⟩ : ∃ g, g = h.blk := ⟨_, rfl⟩
  obtain ⟨l, hl⟩ : ∃ l, l = h.bks.map (·.pb) := ⟨_, rfl⟩
  rw [← hsz] at k4 hs0 hs1 HF ⊢
  rw [← hg] at k4 hb HF ⊢
  rw [← hl] at HF ⊢
  clear hsz hg hl H O
  obtain ⟨R, hR⟩ : ∃ R, R = scanF (ffP sz l n) (sz - n) align 5000 0 := ⟨_, rfl⟩
  rw [← hR]
  obtain ⟨w1, hw1⟩ : ∃ w1, w.alloc (.cells #[.pointer (some ⟨g, 4, none⟩)] 97) = w1 := ⟨_, rfl⟩
  have hq1 : Q w w1 := by rw [← hw1]; exact (Q.refl w).alloc _
  have c0 : w1.cell? ⟨w.heap.size, 0, none⟩ = some (.pointer (some ⟨g, 4, none⟩)) := by rw [← hw1, cell_new]; rfl
  have hs2 : w.heap.size < w1.heap.size := by rw [← hw1]; simp
  have k4' := (hq1.facts.1 g 4 hb).trans k4
  have hgw : g < w1.heap.size := by omega
  have HW := hide hw1
  have HR := hide hR
  clear hw1 hR k4
  go_enter Tryz.func160, Tryz.ntmps160
  go_wp2_with fail
  rw [HW.out]
  go_loopw [8] (fun va wr => ∃ (f : Nat) (a : Int), va = .int .i64 a ∧ 0 ≤ a ∧ a ≤ 5000 ∧ sz - n - a < f ∧ Hid (R = scanF (ffP sz l n) (sz - n) align f a) ∧ Q w1 wr) (fun va _ => (6000 - intOf va).toNat)
  case atStart => exact ⟨5000, 0, rfl, by omega, by omega, by omega, HR.out, Q.refl _⟩
  case round =>
    obtain ⟨f, a, rfl, hlo, hhi, hfu, HS, hq⟩ := hrel
    have hsz := hq.size
    have kr := (hq.facts.1 g 4 hgw).trans k4'
    have cr := (hq.facts.1 _ 0 hs2).trans c0
    by_cases hlt : a + n ≤ sz
    · obtain ⟨f', rfl⟩ : ∃ f', f = f' + 1 := ⟨f - 1, by omega⟩
      have hs := HS.out
      rw [scanF, if_neg (by omega)] at hs
      have HC := hide (HF.out wr (hq1.trans hq) a (a + n))
      obtain ⟨b, hbb⟩ : ∃ b, b = freeB sz l a (a + n) (-1) := ⟨_, rfl⟩
      rw [show ffP sz l n a = freeB sz l a (a + n) (-1) from rfl, ← hbb] at hs
      rw [← hbb] at HC
      clear hbb
      cases b
      · have HS2 : Hid (R = scanF (ffP sz l n) (sz - n) align f' (a + align)) := hide (by simpa using hs)
        clear hs HS
        go_wp2_with (go_at_call 163; refine HC.out.mono ?_; rintro e w3 ⟨rfl, hq3⟩)
        go_roundw
        case rel => exact ⟨f', a + align, rfl, by omega, by omega, by omega, HS2, hq.trans hq3⟩
        case measure => simp [intOf] <;> omega
      · have HS2 : Hid (R = some a) := hide (by simpa using hs)
        clear hs HS
        go_wp2_with (go_at_call 163; refine HC.out.mono ?_; rintro e w3 ⟨rfl, hq3⟩)
        go_ret2
        exact ⟨a, true, rfl, by rw [HS2.out]; rfl, fun x hx => by rw [HS2.out] at hx; exact Option.some.inj hx, (hq1.trans hq).trans hq3⟩
    · have hs := HS.out
      have hR : R = none := by
        rw [hs]
        cases f with
        | zero => rfl
        | succ f => rw [scanF, if_pos (by omega)]
      have HR2 := hide hR
      clear hR hs
      go_wp2_with fail
      go_ret2
      exact ⟨0, false, rfl, by rw [HR2.out]; rfl, fun x hx => (by rw [HR2.out] at hx; cases hx), hq1.trans hq⟩
set_option maxHeartbeats 1000000 in
theorem bump_room (h : Hp) (n align : Int) (w : World) (H : HpR w h) (O : Ok h) (hk : h.kind = 1 ∨ h.kind = 2) (hn0 : 1 ≤ n) (hn1 : n ≤ 4096) (ha0 : 1 ≤ align) (ha1 : align ≤ 16) :
    Calls Tryz.prog 170 #[.pointer (some ⟨h.wb, 0, none⟩), .int .i64 n, .int .i64 align] w (RoomPost (if upTo h.top align + n ≤ h.size then some (upTo h.top align) else none) w) := by
  have hb := blk_lt H.cells
  have k4 := H.k4
  obtain ⟨hs0, hs1⟩ := O.fit.sz
  obtain ⟨ht0, ht1⟩ := O.top
  have hrow : ∃ T, w.heap[h.wb]? = some (.cells h.wrow T (0, 0)) := by
    rcases hk with hk | hk
    · exact ⟨_, H.w1 hk⟩
    · exact ⟨_, H.w2 hk⟩
  obtain ⟨T, hrow⟩ := hrow
  have hwl := blk_lt hrow
  have c0 : w.cell? ⟨h.wb, 0, none⟩ = some (.pointer (some ⟨h.blk, 4, none⟩)) := by rw [cell_of_row _ _ _ _ _ _ hrow]; rfl
  have c1 : w.cell? ⟨h.wb, 1, none⟩ = some (.int .i64 h.top) := by rw [cell_of_row _ _ _ _ _ _ hrow]; rfl
  obtain ⟨t, ht⟩ : ∃ t, t = h.top := ⟨_, rfl⟩
  obtain ⟨sz, hsz⟩ : ∃ sz, sz = h.size := ⟨_, rfl⟩
  obtain ⟨g, hg⟩ : ∃ g, g = h.blk := ⟨_, rfl⟩
  obtain ⟨q, hq⟩ : ∃ q, q = h.wb := ⟨_, rfl⟩
  rw [← ht] at c1 ht0 ht1 ⊢
  rw [← hsz] at k4 hs0 hs1 ⊢
  rw [← hg] at k4 hb c0
  rw [← hq] at c0 c1 hwl ⊢
  clear ht hsz hg hq H O hrow hk
  have HU : Hid (∀ W, Calls Tryz.prog 173 #[.int .i64 t, .int .i64 align] W fun e w' => e = .returned (.int .i64 (upTo t align)) ∧ W = w') := fun W => up_any t align W ht0 (by omega) ha0 ha1
  have hu0 : 0 ≤ upTo t align := Int.mul_nonneg (Int.ediv_nonneg (by omega) (by omega)) (by omega)
  have hu1 : upTo t align ≤ 6000 := by
    have : (t + align - 1) / align * align ≤ t + align - 1 := Int.ediv_mul_le _ (by omega)
    unfold upTo
    omega
  obtain ⟨u, hu⟩ : ∃ u, u = upTo t align := ⟨_, rfl⟩
  rw [← hu] at HU hu0 hu1 ⊢
  clear hu
  by_cases hfit : u + n ≤ sz
  · have hd : decide (u + n ≤ sz) = true := by simpa using hfit
    rw [if_pos hfit]
    go_enter Tryz.func170, Tryz.ntmps170
    go_wp2_with (go_at_call 173; refine (HU.out _).mono ?_; rintro e w1 ⟨rfl, rfl⟩)
    have hxc := ext_cell
    refine wp_region_ext (by kernel_rfl) (by kernel_rfl) ?_
    repeat (go_big_quiet_step ((fail)))
    clear hxc
    refine wpQuiet_nil ?_
    intro w2 hww2
    have hqw2 := q_of_ext hww2
    clear hww2
    obtain ⟨hcw2, hfw2, hzw2⟩ := hqw2.facts
    try simp at hzw2
    try have hs0w2 : w.heap.size < w2.heap.size := by omega
    try have hs1w2 : w.heap.size + 1 < w2.heap.size := by omega
    go_wp2_with fail
    go_ret2
    exact ⟨u, true, rfl, rfl, fun x hx => Option.some.inj hx, hqw2⟩
  · have hd : decide (u + n ≤ sz) = false := by simpa using hfit
    rw [if_neg hfit]
    go_enter Tryz.func170, Tryz.ntmps170
    go_wp2_with (go_at_call 173; refine (HU.out _).mono ?_; rintro e w1 ⟨rfl, rfl⟩)
    have hxc := ext_cell
    refine wp_region_ext (by kernel_rfl) (by kernel_rfl) ?_
    repeat (go_big_quiet_step ((fail)))
    clear hxc
    refine wpQuiet_nil ?_
    intro w2 hww2
    have hqw2 := q_of_ext hww2
    clear hww2
    obtain ⟨hcw2, hfw2, hzw2⟩ := hqw2.facts
    try simp at hzw2
    try have hs0w2 : w.heap.size < w2.heap.size := by omega
    try have hs1w2 : w.heap.size + 1 < w2.heap.size := by omega
    go_wp2_with fail
    go_ret2
    exact ⟨u, false, rfl, rfl, fun x hx => (by cases hx), hqw2⟩
set_option maxHeartbeats 2000000 in
theorem pool_room (h : Hp) (n align : Int) (w : World) (H : HpR w h) (O : Ok h) (hk : h.kind = 3) (hn0 : 1 ≤ n) (hn1 : n ≤ 4096) (ha0 : 1 ≤ align) (ha1 : align ≤ 16) :
    Calls Tryz.prog 181 #[.agg #[h.bptr, .int .i64 h.piece], .int .i64 n, .int .i64 align] w (RoomPost (if n ≤ h.piece then scanF (poolP h.size (h.bks.map (·.pb)) h.piece align) (h.size - h.piece) h.piece 5000 0 else none) w) := by
  have hb := blk_lt H.cells
  have k4 := H.k4
  obtain ⟨hs0, hs1⟩ := O.fit.sz
  obtain ⟨hp0, hp1⟩ := O.piece hk
  have HF : Hid (∀ W, Q w W → ∀ a b, Calls Tryz.prog 163 #[.pointer (some ⟨h.blk, 4, none⟩), .int .i64 a, .int .i64 b, .int .i64 (-1)] W fun e w' => e = .returned (.bool (freeB h.size (h.bks.map (·.pb)) a b (-1))) ∧ Q W w') := fun W hq a b => free_any h a b (-1) W (H.q hq) O.near
  unfold Hp.bptr
  obtain ⟨sz, hsz⟩ : ∃ sz, sz = h.size := ⟨_, rfl⟩
  obtain ⟨pc, hpc⟩ : ∃ pc, pc = h.piece := ⟨_, rfl⟩
  obtain ⟨g, hg⟩ : ∃ g, g = h.blk := ⟨_, rfl⟩
  obtain ⟨l, hl⟩ : ∃ l, l = h.bks.map (·.pb) := ⟨_, rfl⟩
  rw [← hsz] at k4 hs0 hs1 hp1 HF ⊢
  rw [← hpc] at hp0 hp1 ⊢
  rw [← hg] at k4 hb HF ⊢
  rw [← hl] at HF ⊢
  clear hsz hpc hg hl H O hk
  obtain ⟨w1, hw1⟩ : ∃ w1, w.alloc (.cells #[.pointer (some ⟨g, 4, none⟩), .int .i64 pc] 105) = w1 := ⟨_, rfl⟩
  have hq1 : Q w w1 := by rw [← hw1]; exact (Q.refl w).alloc _
  have c0 : w1.cell? ⟨w.heap.size, 0, none⟩ = some (.pointer (some ⟨g, 4, none⟩)) := by rw [← hw1, cell_new]; rfl
  have c1 : w1.cell? ⟨w.heap.size, 1, none⟩ = some (.int .i64 pc) := by rw [← hw1, cell_new]; rfl
  have hs2 : w.heap.size < w1.heap.size := by rw [← hw1]; simp
  have k4' := (hq1.facts.1 g 4 hb).trans k4
  have hgw : g < w1.heap.size := by omega
  have hwl := hs2
  have HW := hide hw1
  clear hw1 k4
  by_cases hnp : n ≤ pc
  · have hnd : decide (n ≤ pc) = true := by simpa using hnp
    rw [if_pos hnp]
    obtain ⟨R, hR⟩ : ∃ R, R = scanF (poolP sz l pc align) (sz - pc) pc 5000 0 := ⟨_, rfl⟩
    rw [← hR]
    have HR := hide hR
    clear hR
    go_enter Tryz.func181, Tryz.ntmps181
    go_wp2_with fail
    rw [HW.out]
    go_loopw [8] (fun va wr => ∃ (f : Nat) (a : Int), va = .int .i64 a ∧ 0 ≤ a ∧ a ≤ 9000 ∧ sz - pc - a < f ∧ Hid (R = scanF (poolP sz l pc align) (sz - pc) pc f a) ∧ Q w1 wr) (fun va _ => (20000 - intOf va).toNat)
    case atStart => exact ⟨5000, 0, rfl, by omega, by omega, by omega, HR.out, Q.refl _⟩
    case round =>
      obtain ⟨f, a, rfl, hlo, hhi, hfu, HS, hq⟩ := hrel
      have hsz := hq.size
      have kr := (hq.facts.1 g 4 hgw).trans k4'
      have cr0 := (hq.facts.1 _ 0 hs2).trans c0
      have cr1 := (hq.facts.1 _ 1 hs2).trans c1
      have hgr : g < wr.heap.size := by omega
      have hwr : w.heap.size < wr.heap.size := by omega
      by_cases hlt : a + pc ≤ sz
      · have hld : decide (a + pc ≤ sz) = true := by simpa using hlt
        obtain ⟨f', rfl⟩ : ∃ f', f = f' + 1 := ⟨f - 1, by omega⟩
        have hs := HS.out
        rw [scanF, if_neg (by omega)] at hs
        by_cases hal : a % align = 0
        · have ha2 : (a % align == 0) = true := by simpa using hal
          obtain ⟨b, hbb⟩ : ∃ b, b = freeB sz l a (a + pc) (-1) := ⟨_, rfl⟩
          rw [show poolP sz l pc align a = freeB sz l a (a + pc) (-1) by unfold poolP; simp [hal], ← hbb] at hs
          have HC : Hid (∀ W, Q w W → Calls Tryz.prog 163 #[.pointer (some ⟨g, 4, none⟩), .int .i64 a, .int .i64 (a + pc), .int .i64 (-1)] W fun e w' => e = .returned (.bool b) ∧ Q W w') := fun W hW => by rw [hbb]; exact HF.out W hW a (a + pc)
          clear hbb hal
          cases b
          · have HS2 : Hid (R = scanF (poolP sz l pc align) (sz - pc) pc f' (a + pc)) := hide (by simpa using hs)
            clear hs HS
            go_wp2_with fail
            have hxc := ext_cell
            refine wp_region_ext (by kernel_rfl) (by kernel_rfl) ?_
            repeat (go_big_quiet_step ((fail)))
            clear hxc
            refine wpQuiet_nil ?_
            intro w2 hww2
            have hqw2 := q_of_ext hww2
            clear hww2
            obtain ⟨hcw2, hfw2, hzw2⟩ := hqw2.facts
            try simp at hzw2
            try have hs0w2 : w.heap.size < w2.heap.size := by omega
            try have hs1w2 : w.heap.size + 1 < w2.heap.size := by omega
            have kr2 := (hqw2.facts.1 g 4 hgr).trans kr
            have cr2 := (hqw2.facts.1 _ 0 hwr).trans cr0
            have cr3 := (hqw2.facts.1 _ 1 hwr).trans cr1
            go_wp2_with (go_at_call 163; refine (HC.out _ ((hq1.trans hq).trans hqw2)).mono ?_; rintro e w3 ⟨rfl, hq3⟩; have cr4 := (hq3.facts.1 _ 1 (by have := hqw2.size; omega)).trans cr3)
            go_roundw
            case rel => exact ⟨f', a + pc, rfl, by omega, by omega, by omega, HS2, (hq.trans hqw2).trans hq3⟩
            case measure => simp [intOf] <;> omega
          · have HS2 : Hid (R = some a) := hide (by simpa using hs)
            clear hs HS
            go_wp2_with fail
            have hxc := ext_cell
            refine wp_region_ext (by kernel_rfl) (by kernel_rfl) ?_
            repeat (go_big_quiet_step ((fail)))
            clear hxc
            refine wpQuiet_nil ?_
            intro w2 hww2
            have hqw2 := q_of_ext hww2
            clear hww2
            obtain ⟨hcw2, hfw2, hzw2⟩ := hqw2.facts
            try simp at hzw2
            try have hs0w2 : w.heap.size < w2.heap.size := by omega
            try have hs1w2 : w.heap.size + 1 < w2.heap.size := by omega
            have kr2 := (hqw2.facts.1 g 4 hgr).trans kr
            have cr2 := (hqw2.facts.1 _ 0 hwr).trans cr0
            have cr3 := (hqw2.facts.1 _ 1 hwr).trans cr1
            go_wp2_with (go_at_call 163; refine (HC.out _ ((hq1.trans hq).trans hqw2)).mono ?_; rintro e w3 ⟨rfl, hq3⟩)
            go_ret2
            exact ⟨a, true, rfl, by rw [HS2.out]; rfl, fun x hx => (by rw [HS2.out] at hx; exact Option.some.inj hx), ((hq1.trans hq).trans hqw2).trans hq3⟩
        · have ha2 : (a % align == 0) = false := by simpa using hal
          rw [show poolP sz l pc align a = false by unfold poolP; simp [hal]] at hs
          have HS2 : Hid (R = scanF (poolP sz l pc align) (sz - pc) pc f' (a + pc)) := hide (by simpa using hs)
          clear hs HS
          go_wp2_with fail
          have hxc := ext_cell
          refine wp_region_ext (by kernel_rfl) (by kernel_rfl) ?_
          repeat (go_big_quiet_step ((fail)))
          clear hxc
          refine wpQuiet_nil ?_
          intro w2 hww2
          have hqw2 := q_of_ext hww2
          clear hww2
          obtain ⟨hcw2, hfw2, hzw2⟩ := hqw2.facts
          try simp at hzw2
          try have hs0w2 : w.heap.size < w2.heap.size := by omega
          try have hs1w2 : w.heap.size + 1 < w2.heap.size := by omega
          have kr2 := (hqw2.facts.1 g 4 hgr).trans kr
          have cr2 := (hqw2.facts.1 _ 0 hwr).trans cr0
          have cr3 := (hqw2.facts.1 _ 1 hwr).trans cr1
          go_wp2_with fail
          go_roundw
          case rel => exact ⟨f', a + pc, rfl, by omega, by omega, by omega, HS2, hq.trans hqw2⟩
          case measure => simp [intOf] <;> omega
      · have hld : decide (a + pc ≤ sz) = false := by simpa using hlt
        have hR : R = none := by
          rw [HS.out]
          cases f with
          | zero => rfl
          | succ f => rw [scanF, if_pos (by omega)]
        have HR2 := hide hR
        clear hR
        go_wp2_with fail
        have hxc := ext_cell
        refine wp_region_ext (by kernel_rfl) (by kernel_rfl) ?_
        repeat (go_big_quiet_step ((fail)))
        clear hxc
        refine wpQuiet_nil ?_
        intro w2 hww2
        have hqw2 := q_of_ext hww2
        clear hww2
        obtain ⟨hcw2, hfw2, hzw2⟩ := hqw2.facts
        try simp at hzw2
        try have hs0w2 : w.heap.size < w2.heap.size := by omega
        try have hs1w2 : w.heap.size + 1 < w2.heap.size := by omega
        go_wp2_with fail
        go_ret2
        exact ⟨0, false, rfl, by rw [HR2.out]; rfl, fun x hx => (by rw [HR2.out] at hx; cases hx), (hq1.trans hq).trans hqw2⟩
  · have hnd : decide (n ≤ pc) = false := by simpa using hnp
    rw [if_neg hnp]
    go_enter Tryz.func181, Tryz.ntmps181
    go_wp2_with fail
    rw [HW.out]
    go_loopw [8] (fun va wr => va = .int .i64 0 ∧ Q w1 wr) (fun va _ => 0)
    case atStart => exact ⟨rfl, Q.refl _⟩
    case round =>
      obtain ⟨rfl, hq⟩ := hrel
      have hsz := hq.size
      have kr := (hq.facts.1 g 4 hgw).trans k4'
      have cr0 := (hq.facts.1 _ 0 hs2).trans c0
      have cr1 := (hq.facts.1 _ 1 hs2).trans c1
      have hgr : g < wr.heap.size := by omega
      have hwr : w.heap.size < wr.heap.size := by omega
      go_wp2_with fail
      have hxc := ext_cell
      refine wp_region_ext (by kernel_rfl) (by kernel_rfl) ?_
      repeat (go_big_quiet_step ((fail)))
      clear hxc
      refine wpQuiet_nil ?_
      intro w2 hww2
      have hqw2 := q_of_ext hww2
      clear hww2
      obtain ⟨hcw2, hfw2, hzw2⟩ := hqw2.facts
      try simp at hzw2
      try have hs0w2 : w.heap.size < w2.heap.size := by omega
      try have hs1w2 : w.heap.size + 1 < w2.heap.size := by omega
      go_wp2_with fail
      go_ret2
      exact ⟨0, false, rfl, rfl, fun x hx => (by cases hx), (hq1.trans hq).trans hqw2⟩
end Go.Proofs.YtdaklffbfadghaaGreat
