/- put: a block laid among the live ones. Conditions: the heap reads so; the block's bytes are a row of their own. -/
import Derived.Test.YtdaklffbfadghaaGreatHpL
namespace Go.Proofs.YtdaklffbfadghaaGreat
open Go.RowKit HP
set_option linter.unusedVariables false
theorem insAt_perm {α : Type} (l : List α) (k : Nat) (x : α) : (insAt l k [x]).Perm (x :: l) := by
  unfold insAt
  have h1 : (l.take k ++ ([x] ++ l.drop k)).Perm (x :: (l.take k ++ l.drop k)) := List.perm_middle
  rw [List.take_append_drop] at h1
  exact h1
theorem insAt_mem {α : Type} {l : List α} {k : Nat} {x y : α} : y ∈ insAt l k [x] ↔ y = x ∨ y ∈ l := by rw [(insAt_perm l k x).mem_iff, List.mem_cons]
theorem insAt_map {α β : Type} (f : α → β) (l : List α) (k : Nat) (x : α) : (insAt l k [x]).map f = insAt (l.map f) k [f x] := by
  unfold insAt
  simp [List.map_take, List.map_drop]
theorem insAt_flat (l : List Bk) (k : Nat) (x : Bk) (hk : k ≤ l.length) : (insAt l k [x]).flatMap encBk = insAt (l.flatMap encBk) (k * 2) (encBk x) := by
  have h1 : l.flatMap encBk = (l.take k).flatMap encBk ++ (l.drop k).flatMap encBk := by rw [← List.flatMap_append, List.take_append_drop]
  have h2 : ((l.take k).flatMap encBk).length = k * 2 := by rw [flatMap_length (k := 2) (fun _ => rfl), List.length_take]; omega
  unfold insAt
  rw [h1, List.take_left' h2, List.drop_left' h2]
  simp [List.flatMap_append]
/-- the heap with one more live block -/
def putH (h : Hp) (v : Value) (k : Nat) (x : Bk) : Hp := { h with lv := v, bks := insAt h.bks k [x] }
theorem put_rep {w W : World} {h : Hp} {v : Value} {k : Nat} {x : Bk} (H : HpR w h) (hg : w.grownBy W h.lv.ownBlock) (hv : W.ownsRow 0 111 2 v (h.bks.length + 1) (insAt (h.bks.flatMap encBk) (k * 2) (encBk x))) (hk : k ≤ h.bks.length)
    (hx : w.ownsRow 0 3 1 x.bv x.pb.2.length (intsV x.pb.2)) (hn : ∀ y ∈ h.bks, y.row ≠ x.row) : HpR (W.setCell ⟨h.blk, 5, none⟩ v) (putH h v k x) := by
  have hblk : W.heap[h.blk]? = w.heap[h.blk]? := hg.block _ (blk_lt H.cells) (fun e => H.ne_live e.symm rfl)
  have hcl := hblk.trans H.cells
  have hrow : ∀ y : Bk, w.ownsRow 0 3 1 y.bv y.pb.2.length (intsV y.pb.2) → (W.setCell ⟨h.blk, 5, none⟩ v).ownsRow 0 3 1 y.bv y.pb.2.length (intsV y.pb.2) := fun y hy => by
    obtain ⟨cs, e⟩ := own_blk hy y.own
    have hne : y.row ≠ h.blk := ty_ne e H.cells (by decide)
    refine own_same hy fun b hb => ?_
    cases hb
    rw [heap_setCell_other _ _ _ _ hne]
    exact hg.block _ (hy.lt _ y.own).2 (fun e' => by
      obtain ⟨cs', e2⟩ := own_blk H.live e'.symm
      exact ty_ne e e2 (by decide) rfl)
  refine ⟨?_, ?_, ?_, ?_, ?_, ?_⟩
  · exact heap_setCell_same W h.blk 5 h.cells _ v hcl
  · show (W.setCell ⟨h.blk, 5, none⟩ v).ownsRow 0 _ 2 v (insAt h.bks k [x]).length ((insAt h.bks k [x]).flatMap encBk)
    rw [insAt_len _ _ _ hk, insAt_flat _ _ _ hk]
    refine own_same hv fun b hb => heap_setCell_other _ _ _ _ ?_
    obtain ⟨cs, e⟩ := own_blk hv hb
    exact ty_ne e hcl (by decide)
  · intro y hy
    rcases insAt_mem.1 hy with rfl | hy
    · exact hrow _ hx
    · exact hrow y (H.rows y hy)
  · intro e
    show (W.setCell ⟨h.blk, 5, none⟩ v).heap[h.wb]? = _
    rw [heap_setCell_other _ _ _ _ (H.ne_wb (.inl e)), hg.block _ (blk_lt (H.w1 e)) (fun e' => H.live_wb e'.symm (.inl e) rfl)]
    exact H.w1 e
  · intro e
    show (W.setCell ⟨h.blk, 5, none⟩ v).heap[h.wb]? = _
    rw [heap_setCell_other _ _ _ _ (H.ne_wb (.inr e)), hg.block _ (blk_lt (H.w2 e)) (fun e' => H.live_wb e'.symm (.inr e) rfl)]
    exact H.w2 e
  · show ((insAt h.bks k [x]).map (·.row)).Nodup
    rw [((insAt_perm h.bks k x).map (·.row)).nodup_iff, List.map_cons, List.nodup_cons]
    refine ⟨fun hm => ?_, H.apart⟩
    obtain ⟨y, hy, e⟩ := List.mem_map.1 hm
    exact hn y hy e
def PutMid (w : World) (h : Hp) (k : Nat) (x : Bk) (v : Value) (W : World) : Prop :=
  W.ownsRow 0 111 2 v (h.bks.length + 1) (insAt (h.bks.flatMap encBk) (k * 2) (encBk x)) ∧ w.grownBy W h.lv.ownBlock ∧ ∀ b, v.ownBlock = some b → h.lv.ownBlock = some b ∨ w.heap.size ≤ b
/-- the block's place among the live ones -/
def putK (h : Hp) (x : Bk) : Nat := below (h.bks.map (·.pb)) x.pb.1
def PutPost (w : World) (h : Hp) (x : Bk) (e : Ending) (w' : World) : Prop :=
  e = .returned (.tuple #[]) ∧ ∃ v, HpR w' { putH h v (putK h x) x with top := takenTop h x.pb } ∧ Turn (fun b => h.fp b ∨ b = x.row) w w' ∧ ∀ b, v.ownBlock = some b → h.lv.ownBlock = some b ∨ w.heap.size ≤ b
/-- one block in a new row -/
def OneNew (w0 : World) (cs : Array Value) (t : TypeId) (v : Value) (W : World) : Prop := ∃ b, v = .slice (some ⟨b, 0, none⟩) 1 1 ∧ w0.heap.size ≤ b ∧ W.heap[b]? = some (.cells cs t (0, 0))
theorem mono_oneNew (w0 : World) (cs : Array Value) (t : TypeId) : Ri.Mono (OneNew w0 cs t) := fun v w1 w2 ⟨b, e, hb, hc⟩ hq => ⟨b, e, hb, (hq.below.block b (blk_lt hc)).trans hc⟩
theorem enc_one {l : List Bk} : ∀ u ∈ l.flatMap encBk, u.oneCell' = true := fun u hu => by
  obtain ⟨y, _, hy⟩ := List.mem_flatMap.1 hu
  simp [encBk, Bk.bv] at hy
  rcases hy with rfl | rfl <;> simp [Value.oneCell']
theorem fill_bk (a b : Value) : Instr.fill (fun i => some (i * 2, 2)) (Array.map (fun x => (Value.agg #[Value.int .i64 0, Value.slice none 0 0]).cells[x % (Value.agg #[Value.int .i64 0, Value.slice none 0 0]).cells.size]!) (Array.range (1 * 2))) [(0, Value.agg #[a, b])] = some #[a, b] := by kernel_rfl
set_option maxHeartbeats 4000000 in
set_option maxRecDepth 100000 in
theorem put_any (h : Hp) (y : Bk) (w : World) (H : HpR w h) (hk : 0 ≤ h.kind ∧ h.kind ≤ 3) (hlen : h.bks.length ≤ 99) (hF : Fit h.size (h.bks.map (·.pb))) (hx0 : 0 ≤ y.pb.1) (hx1 : y.pb.1 ≤ 10000) (hn : y.pb.2.length ≤ 10000)
    (hx : w.ownsRow 0 3 1 y.bv y.pb.2.length (intsV y.pb.2)) (hnr : ∀ z ∈ h.bks, z.row ≠ y.row) :
    Calls Tryz.prog 62 #[h.ptr, .agg #[.int .i64 y.pb.1, y.bv]] w (PutPost w h y) := by
  obtain ⟨A, c, hlv, hS, k5, hb⟩ := H.open_
  obtain ⟨kk, hkk⟩ : ∃ kk, kk = putK h y := ⟨_, rfl⟩
  have hkl : kk ≤ h.bks.length := by rw [hkk]; have := below_le (h.bks.map (·.pb)) y.pb.1; rw [List.length_map] at this; exact this
  obtain ⟨x, hxe⟩ : ∃ x, x = y.pb.1 := ⟨_, rfl⟩
  obtain ⟨n, hne⟩ : ∃ n, n = y.pb.2.length := ⟨_, rfl⟩
  obtain ⟨row, hre⟩ : ∃ row, row = y.row := ⟨_, rfl⟩
  obtain ⟨cap, hce⟩ : ∃ cap, cap = y.cap := ⟨_, rfl⟩
  have hbv : y.bv = .slice (some ⟨row, 0, none⟩) n cap := by rw [hne, hre, hce]; rfl
  obtain ⟨fd, hfd⟩ : ∃ fd, fd = has (h.bks.map (·.pb)) x := ⟨_, rfl⟩
  have HFIND : Hid (∀ W, Q w W → Calls Tryz.prog 96 #[.pointer (some ⟨h.blk, 4, none⟩), .int .i64 x] W fun e w' => e = .returned (.tuple #[.int .i64 (kk : Int), .bool fd]) ∧ Q W w') := fun W hW => by
    refine (find_any h x W (H.q hW) (by omega) hF (by omega) (by omega)).mono ?_
    rintro e w' ⟨k, rfl, _, hkb, hq⟩
    rw [hkb (by omega), ← hfd]
    exact ⟨by rw [hkk, hxe]; rfl, hq⟩
  have HINS : Hid (∀ w0, Q w w0 → ∀ W, Q w0 W → ∀ vb, w0.heap.size ≤ vb → W.heap[vb]? = some (.cells #[.int .i64 x, .slice (some ⟨row, 0, none⟩) n cap] 111 (0, 0)) → Calls Tryz.prog 97 #[.slice A h.bks.length c, .int .i64 (kk : Int), .slice (some ⟨vb, 0, none⟩) 1 1] W fun e w' => ∃ v, e = .returned v ∧ PutMid w0 h kk y v w') := fun w0 hw0 W hW0 vb hvb hc => by
    have hW := hw0.trans hW0
    have HW := H.q hW
    have hs0 := hw0.size
    have hown := HW.live
    rw [hlv] at hown
    refine (insert_any A h.bks.length c kk vb (h.bks.flatMap encBk) (.int .i64 x) (.slice (some ⟨row, 0, none⟩) n cap) W hown (by omega) hkl hc (fun e => by
      have := (H.live.lt vb (by rw [hlv]; exact e)).2
      omega) (by simp [Value.oneCell']) (by simp [Value.oneCell']) enc_one).mono ?_
    rintro e w' ⟨v, rfl, hv, hg, hbk⟩
    refine ⟨v, rfl, ?_, ?_, ?_⟩
    · rw [← hbv, hxe] at hv
      exact hv
    · rw [hlv]
      exact grown_trans (grown_of_q hW0) hg
    · intro b hb
      rw [hlv]
      rcases hbk b hb with h1 | h1
      · exact .inl h1
      · exact .inr (Nat.le_trans hW0.size h1)
  have HEND : Hid (∀ w0, Q w w0 → ∀ v W, PutMid w0 h kk y v W → HpR (W.setCell ⟨h.blk, 5, none⟩ v) (putH h v kk y) ∧ W.cell? ⟨h.blk, 5, none⟩ = some (.slice A h.bks.length c) ∧ W.frozen? ⟨h.blk, 5, none⟩ = false ∧ Turn h.fp w (W.setCell ⟨h.blk, 5, none⟩ v) ∧ w.heap.size ≤ W.heap.size ∧ ∃ cs ty fr, v = .slice cs ty fr) := fun w0 hw0 v W ⟨hv, hg, hbk⟩ => by
    have H0 := H.q hw0
    have hblk : W.heap[h.blk]? = w0.heap[h.blk]? := hg.block _ (blk_lt H0.cells) (fun e => H0.ne_live e.symm rfl)
    refine ⟨put_rep H0 hg hv hkl (own_q hx hw0) hnr, ?_, frozen_of_row _ _ _ _ _ (hblk.trans H0.cells), (((Turn.of_q hw0).grown hg (fun b e _ => .inr (.inl e))).set (.inl rfl) _), Nat.le_trans hw0.size hg.size, ?_⟩
    · rw [cell_of_row _ _ _ _ _ _ (hblk.trans H0.cells)]
      show some h.lv = _
      rw [hlv]
    · obtain ⟨A', c', e, _⟩ := own_form hv
      exact ⟨A', _, c', e⟩
  have HTK : Hid (∀ v W, HpR W (putH h v kk y) → ∃ ty u f rcv, W.cell? ⟨h.blk, 6, none⟩ = some (.iface ty u) ∧ (∀ w, (method 299 ty u "mandrel/heap.taken").run Tryz.prog w = .ok (f, rcv) w) ∧ (∀ args w, (callFunc f args).run Tryz.prog w = .ok (.enter f args) w) ∧
      ∀ W', Q W W' → Calls Tryz.prog f #[rcv, .agg #[.int .i64 x, .slice (some ⟨row, 0, none⟩) n cap]] W' (TopPost (takenTop h y.pb) W' (putH h v kk y))) := fun v W HR => by
    obtain ⟨f, rcv, ⟨ty, u, e1, e2, e3⟩, hc⟩ := taken_any (putH h v kk y) hk
    refine ⟨ty, u, f, rcv, ?_, e2, e3, fun W' hW' => ?_⟩
    · have := HR.cell 6
      rw [show (putH h v kk y).blk = h.blk from rfl] at this
      rw [this, ← e1]
      rfl
    · have := hc y.pb (some ⟨row, 0, none⟩) cap W' (HR.q hW') hx0 hx1 hn
      rw [← hxe, ← hne] at this
      exact this
  have HRES : Hid (∀ w0, Q w w0 → ∀ v W W', PutMid w0 h kk y v W → Q (W.setCell ⟨h.blk, 5, none⟩ v) W' → ∀ W2, TopPost (takenTop h y.pb) W' (putH h v kk y) (.returned (.tuple #[])) W2 → PutPost w h y (.returned (.tuple #[])) W2) := fun w0 hw0 v W W' hm hq W2 ht => by
    obtain ⟨h1, h2, h3, h4, h5, h6⟩ := HEND.out w0 hw0 v W hm
    have hbk : ∀ b, v.ownBlock = some b → h.lv.ownBlock = some b ∨ w.heap.size ≤ b := fun b hb => by
      rcases hm.2.2 b hb with h7 | h7
      · exact .inl h7
      · exact .inr (Nat.le_trans hw0.size h7)
    refine ⟨rfl, v, ?_, ?_, hbk⟩
    · rw [← hkk]
      exact ht.2.rep
    · refine ((h4.q hq).wide (fun i _ e => .inl e)).trans ht.2.turn fun i hi hf => ?_
      rcases hf with hf | hf | ⟨z, hz, hf⟩ | hf
      · exact .inl (.inl hf)
      · rcases hbk i hf with h7 | h7
        · exact .inl (.inr (.inl h7))
        · omega
      · rcases insAt_mem.1 hz with rfl | hz
        · exact .inr hf.symm
        · exact .inl (.inr (.inr (.inl ⟨z, hz, hf⟩)))
      · exact .inl (.inr (.inr (.inr hf)))
  have HLV : Hid (∀ b, h.lv.ownBlock = some b → b < w.heap.size) := fun b hb => (H.live.lt b hb).2
  obtain ⟨g, hg⟩ : ∃ g, g = h.blk := ⟨_, rfl⟩
  obtain ⟨nl, hnl⟩ : ∃ nl, nl = h.bks.length := ⟨_, rfl⟩
  obtain ⟨lv0, hlv0⟩ : ∃ lv0, lv0 = Value.slice A nl c := ⟨_, rfl⟩
  rw [← hnl] at k5 HINS HEND
  rw [← hlv0] at k5 HINS HEND
  unfold Hp.ptr
  rw [hbv, ← hxe]
  rw [← hg] at k5 hb HFIND HEND HTK HRES ⊢
  obtain ⟨w1, hw1⟩ : ∃ w1, w.alloc (.cells #[.int .i64 x, .slice (some ⟨row, 0, none⟩) n cap] 111) = w1 := ⟨_, rfl⟩
  have hq1 : Q w w1 := by rw [← hw1]; exact (Q.refl w).alloc _
  have b0 : w1.heap[w.heap.size]? = some (.cells #[.int .i64 x, .slice (some ⟨row, 0, none⟩) n cap] 111 (0, 0)) := by rw [← hw1]; exact heap_alloc_new w _
  have c0 : w1.cell? ⟨w.heap.size, 0, none⟩ = some (.int .i64 x) := by rw [← hw1, cell_new]; rfl
  have hs1 : w.heap.size < w1.heap.size := by rw [← hw1]; simp
  have HW := hide hw1
  have HF1 : Hid (∀ W, Q w1 W → Calls Tryz.prog 96 #[.pointer (some ⟨g, 4, none⟩), .int .i64 x] W fun e w' => e = .returned (.tuple #[.int .i64 (kk : Int), .bool fd]) ∧ Q W w') := fun W hW => HFIND.out W (hq1.trans hW)
  clear hw1 hlv0 hg hnl H hS hF hx hnr hkk hxe hne hre hce hbv hfd hlv HFIND hkl hlen hk hx0 hx1 hn
  have hbg := hb
  go_enter Tryz.func62, Tryz.ntmps62
  go_wp2_with fail
  rw [HW.out]
  have hbg1 : g < w1.heap.size := by omega
  have hxc := ext_cell
  refine wp_region_ext (by kernel_rfl) (by kernel_rfl) ?_
  repeat (go_big_quiet_step (((go_at_call 96; exact ext_call (HF1.out _ (q_ext _ _))))))
  clear hxc
  refine wpQuiet_nil ?_
  intro w2 hww2
  have hqw2 := q_of_ext hww2
  clear hww2
  obtain ⟨hcw2, hfw2, hzw2⟩ := hqw2.facts
  try simp at hzw2
  try have hs0w2 : w.heap.size < w2.heap.size := by omega
  try have hs1w2 : w.heap.size + 1 < w2.heap.size := by omega
  have k5b := (hqw2.facts.1 g 5 hbg1).trans ((hq1.facts.1 g 5 hbg).trans k5)
  have b2 := (hqw2.below.block _ hs1).trans b0
  have hq02 := hq1.trans hqw2
  have HQ02 := hide hq02
  have HB2 := hide b2
  have K5b := hide k5b
  have hg2 : g < w2.heap.size := by have := hqw2.size; omega
  have hs2 : w.heap.size ≤ w2.heap.size := hq02.size
  clear hcw2 hfw2 k5b b2 hq02 k5 b0 c0 hqw2 hq1 HF1 HW
  go_wp2_with fail
  refine Ri.called_last 9 [0, 10, 11, 12] (Ri.phi [Ri.isV (.pointer (some ⟨g, 0, none⟩)), Ri.isV (.pointer (some ⟨g, 0, none⟩)), Ri.isV (.pointer (some ⟨g, 0, none⟩)), Ri.isV (.pointer (some ⟨g, 4, none⟩)), Ri.isV (.pointer (some ⟨g, 5, none⟩)), Ri.isV (lv0), Ri.isV (.int .i64 (kk : Int)), Ri.isV (.agg #[.int .i64 x, .slice (some ⟨row, 0, none⟩) n cap]), OneNew w2 #[.int .i64 x, .slice (some ⟨row, 0, none⟩) n cap] 111, fun _ _ => True, Ri.isV (.pointer (some ⟨g, 0, none⟩)), Ri.isV (.pointer (some ⟨g, 4, none⟩)), Ri.isV (.pointer (some ⟨g, 5, none⟩))]) (PutMid w2 h kk y) (by kernel_rfl) (by kernel_rfl) rfl (by kernel_rfl) rfl (by decide) (by kernel_rfl) (Ri.phi_mono ?_) ?_ ?_ ?_
  · exact ⟨Ri.mono_isV _, Ri.mono_isV _, Ri.mono_isV _, Ri.mono_isV _, Ri.mono_isV _, Ri.mono_isV _, Ri.mono_isV _, Ri.mono_isV _, mono_oneNew _ _ _, fun _ _ _ h _ => h, Ri.mono_isV _, Ri.mono_isV _, Ri.mono_isV _, trivial⟩
  · intro i v w1 w2 hk hv
    match i, hk, hv with
    | 0, _, hv => exact hv
    | 1, hk, _ => exact absurd hk (by decide)
    | 2, hk, _ => exact absurd hk (by decide)
    | 3, hk, _ => exact absurd hk (by decide)
    | 4, hk, _ => exact absurd hk (by decide)
    | 5, hk, _ => exact absurd hk (by decide)
    | 6, hk, _ => exact absurd hk (by decide)
    | 7, hk, _ => exact absurd hk (by decide)
    | 8, hk, _ => exact absurd hk (by decide)
    | 9, hk, _ => exact absurd hk (by decide)
    | 10, _, hv => exact hv
    | 11, _, hv => exact hv
    | 12, _, hv => exact hv
    | i + 13, hk, _ => exact absurd hk (by unfold Ri.kindOf; rw [if_neg (by omega), if_neg (by first | (simp; done) | (simp; omega))]; decide)
  · refine Ri.All.cons ?_ (Ri.All.cons ?_ (Ri.All.cons ?_ (Ri.All.cons ?_ (Ri.All.cons ?_ (Ri.All.cons ?_ (Ri.All.cons ?_ (Ri.All.cons ?_ (Ri.All.cons ?_ (Ri.All.cons ?_ (Ri.All.cons ?_ (Ri.All.cons ?_ (Ri.All.cons ?_ (Ri.All.nil)))))))))))))
    · refine Ri.StepK.p (by decide) ⟨rfl, fun f W hf A hA hB => ?_⟩
      have e1 := (hB 0 (by kernel_rfl)).trans (show _ = .pointer (some ⟨g, 0, none⟩) by simp [Act.eval])
      exact Ri.wp_pure _ (Ri.run_mv rfl e1) rfl
    · refine Ri.StepK.g (by decide) ⟨rfl, fun f W hq hf A hA hB hO => ?_⟩
      have e1 := (hB 0 (by kernel_rfl)).trans (show _ = .pointer (some ⟨g, 0, none⟩) by simp [Act.eval])
      exact Ri.wp_value _ (Ri.run_mv rfl e1) rfl
    · refine Ri.StepK.g (by decide) ⟨rfl, fun f W hq hf A hA hB hO => ?_⟩
      have e1 := (hA 16 1 (by kernel_rfl) (by simp)).trans (show f 1 = _ from hf 1 (by kernel_rfl))
      exact Ri.wp_value _ (Ri.run_nil rfl e1) rfl
    · refine Ri.StepK.g (by decide) ⟨rfl, fun f W hq hf A hA hB hO => ?_⟩
      have e1 := (hA 17 2 (by kernel_rfl) (by simp)).trans (show f 2 = _ from hf 2 (by kernel_rfl))
      exact Ri.wp_value _ (Ri.run_fld (f := _) rfl e1 Tryz.underlying94 rfl (sz := 1) (by kernel_rfl)) rfl
    · refine Ri.StepK.g (by decide) ⟨rfl, fun f W hq hf A hA hB hO => ?_⟩
      have e1 := (hA 18 3 (by kernel_rfl) (by simp)).trans (show f 3 = _ from hf 3 (by kernel_rfl))
      exact Ri.wp_value _ (Ri.run_fld (f := _) rfl e1 Tryz.underlying83 rfl (sz := 0) (by kernel_rfl)) rfl
    · refine Ri.StepK.g (by decide) ⟨rfl, fun f W hq hf A hA hB hO => ?_⟩
      have e1 := (hA 19 4 (by kernel_rfl) (by simp)).trans (show f 4 = _ from hf 4 (by kernel_rfl))
      exact Ri.wp_value _ (Ri.run_ld1 rfl e1 Tryz.underlying81 rfl ((((Q.refl w2).drew.trans hq).facts.1 g 5 hg2).trans K5b.out)) rfl
    · refine Ri.StepK.g (by decide) ⟨rfl, fun f W hq hf A hA hB hO => ?_⟩
      have e1 := (hB 4 (by kernel_rfl)).trans (show _ = .int .i64 (kk : Int) by simp [Act.eval])
      exact Ri.wp_value _ (Ri.run_mv rfl e1) rfl
    · refine Ri.StepK.g (by decide) ⟨rfl, fun f W hq hf A hA hB hO => ?_⟩
      have e1 := (hB 3 (by kernel_rfl)).trans (show _ = .pointer (some ⟨w.heap.size, 0, none⟩) by simp [Act.eval])
      exact Ri.wp_value _ (Ri.run_ldrow rfl e1 ((((Q.refl w2).drew.trans hq).below.block _ (blk_lt HB2.out)).trans HB2.out) Tryz.underlying111 rfl (by kernel_rfl)) rfl
    · refine Ri.StepK.g (by decide) ⟨rfl, fun f W hq hf A hA hB hO => ?_⟩
      have e1 := (hA 22 7 (by kernel_rfl) (by simp)).trans (show f 7 = _ from hf 7 (by kernel_rfl))
      obtain ⟨i, hi, hz, hsz, hby⟩ := info_parts (show (Tryz.prog.info? 111).map (fun i => (i.zero, i.size, i.bytes)) = some (some (.agg #[.int .i64 0, .slice none 0 0]), 2, 32) by kernel_rfl)
      refine wp_buildSlice 81 111 1 _ rfl #[.int .i64 x, .slice (some ⟨row, 0, none⟩) n cap] i _ Tryz.underlying81 hi hz (by rw [hsz]; decide) (by rw [hsz]; decide) ?_ ⟨_, rfl, (Q.refl W).alloc _, W.heap.size, rfl, hq.size, heap_alloc_new W _⟩
      rw [hsz]
      simp only [List.map_toArray, List.map_cons, List.map_nil, e1]
      exact fill_bk _ _
    · refine Ri.StepK.w (by decide) ⟨rfl, fun f W hq hf A hA hB => ?_⟩
      have e1 := (hA 20 5 (by kernel_rfl) (by simp)).trans (show f 5 = _ from hf 5 (by kernel_rfl))
      have e2 := (hA 21 6 (by kernel_rfl) (by simp)).trans (show f 6 = _ from hf 6 (by kernel_rfl))
      obtain ⟨vb, hv, hvb, hvc⟩ : OneNew w2 #[.int .i64 x, .slice (some ⟨row, 0, none⟩) n cap] 111 (f 8) W := hf 8 (by kernel_rfl)
      have e3 := (hA 23 8 (by kernel_rfl) (by simp)).trans hv
      refine Ri.wp_callW #[lv0, .int .i64 (kk : Int), .slice (some ⟨vb, 0, none⟩) 1 1] rfl (by simp [e1, e2, e3]) Tryz.func97 (by kernel_rfl) (by kernel_rfl) ?_
      exact HINS.out w2 HQ02.out W ((Q.refl w2).drew.trans hq) vb hvb hvc
    · refine Ri.StepK.p (by decide) ⟨rfl, fun f W hf A hA hB => ?_⟩
      have e1 := (hA 15 0 (by kernel_rfl) (by simp)).trans (show f 0 = _ from hf 0 (by kernel_rfl) (by decide))
      exact Ri.wp_pure _ (Ri.run_nil rfl e1) rfl
    · refine Ri.StepK.p (by decide) ⟨rfl, fun f W hf A hA hB => ?_⟩
      have e1 := (hA 25 10 (by kernel_rfl) (by simp)).trans (show f 10 = _ from hf 10 (by kernel_rfl) (by decide))
      exact Ri.wp_pure _ (Ri.run_fld (f := _) rfl e1 Tryz.underlying94 rfl (sz := 1) (by kernel_rfl)) rfl
    · refine Ri.StepK.p (by decide) ⟨rfl, fun f W hf A hA hB => ?_⟩
      have e1 := (hA 26 11 (by kernel_rfl) (by simp)).trans (show f 11 = _ from hf 11 (by kernel_rfl) (by decide))
      exact Ri.wp_pure _ (Ri.run_fld (f := _) rfl e1 Tryz.underlying83 rfl (sz := 0) (by kernel_rfl)) rfl
  · intro f W hP hf A hAe hA hB
    obtain ⟨hR, c5, f5, hT, hsW, ⟨sa, sn, sc, hvs⟩⟩ := HEND.out w2 HQ02.out _ W hP
    obtain ⟨v, hv⟩ : ∃ v, v = f 9 := ⟨_, rfl⟩
    rw [← hv] at hP hR hT hvs
    have e1 := (hA 27 12 (by kernel_rfl) (by simp)).trans (show f 12 = _ from hf 12 (by simp) (by decide))
    have e2 := (hA 24 9 (by kernel_rfl) (by simp)).trans hv.symm
    refine Ri.wp_store rfl e1 e2 rfl (by kernel_rfl) (by rw [hvs]; rfl) (by rw [hvs]; simp [Value.oneCell']) c5 f5 ?_
    obtain ⟨ty, u, fT, rcv, k6, hmeth, hent, hTK⟩ := HTK.out v _ hR
    have hb3 : (W.setCell ⟨g, 5, none⟩ v).heap[w.heap.size]? = some (.cells #[.int .i64 x, .slice (some ⟨row, 0, none⟩) n cap] 111 (0, 0)) := by
      rw [heap_setCell_other _ _ _ _ (show w.heap.size ≠ g by omega), hP.2.1.block _ hs0w2 (fun e => by have := HLV.out _ e.symm; omega)]
      exact HB2.out
    obtain ⟨w3, hw3⟩ : ∃ w3, w3 = W.setCell ⟨g, 5, none⟩ v := ⟨_, rfl⟩
    have HRES3 : Hid (∀ W', Q w3 W' → ∀ W2, TopPost (takenTop h y.pb) W' (putH h v kk y) (.returned (.tuple #[])) W2 → PutPost w h y (.returned (.tuple #[])) W2) := fun W' hW' W2 ht => HRES.out w2 HQ02.out v W W' hP (by rw [← hw3]; exact hW') W2 ht
    rw [← hw3] at k6 hTK hb3 ⊢
    have K6 := hide k6
    have HB3 := hide hb3
    have HM := hide hmeth
    have HE := hide hent
    have HT3 := hide hTK
    have hg3 : g < w3.heap.size := by
      have h1 := hP.2.1.size
      have h2 : w3.heap.size = W.heap.size := by rw [hw3]; simp [World.setCell]
      omega
    rw [hAe]
    simp only [Ri.acts, Act.put]
    clear hf hA hB hAe e1 e2 hP hR hT hvs hv c5 f5 k6 hb3 hmeth hent hTK hw3 HTK HEND HRES HINS
    go_wp2_with fail
    refine Ri.made_last (Ri.phi [Ri.isV (.pointer (some ⟨g, 0, none⟩)), Ri.isV (.pointer (some ⟨g, 0, none⟩)), Ri.isV (.pointer (some ⟨g, 6, none⟩)), Ri.isV (.iface ty u), Ri.isV (.agg #[.int .i64 x, .slice (some ⟨row, 0, none⟩) n cap])]) (by kernel_rfl) (by kernel_rfl) rfl (by kernel_rfl) rfl (Ri.phi_mono ?_) ?_ ?_
    · exact ⟨Ri.mono_isV _, Ri.mono_isV _, Ri.mono_isV _, Ri.mono_isV _, Ri.mono_isV _, trivial⟩
    · refine Ri.All.cons ?_ (Ri.All.cons ?_ (Ri.All.cons ?_ (Ri.All.cons ?_ (Ri.All.cons ?_ (Ri.All.nil)))))
      · refine ⟨rfl, fun f W hq hf A hA hB hO => ?_⟩
        have e1 := (hB 0 (by kernel_rfl)).trans (show _ = .pointer (some ⟨g, 0, none⟩) by simp [Act.eval])
        exact Ri.wp_value _ (Ri.run_mv rfl e1) rfl
      · refine ⟨rfl, fun f W hq hf A hA hB hO => ?_⟩
        have e1 := (hA 28 0 (by kernel_rfl) (by simp)).trans (show f 0 = _ from hf 0 (by kernel_rfl))
        exact Ri.wp_value _ (Ri.run_nil rfl e1) rfl
      · refine ⟨rfl, fun f W hq hf A hA hB hO => ?_⟩
        have e1 := (hA 29 1 (by kernel_rfl) (by simp)).trans (show f 1 = _ from hf 1 (by kernel_rfl))
        exact Ri.wp_value _ (Ri.run_fld (f := _) rfl e1 Tryz.underlying94 rfl (sz := 0) (by kernel_rfl)) rfl
      · refine ⟨rfl, fun f W hq hf A hA hB hO => ?_⟩
        have e1 := (hA 30 2 (by kernel_rfl) (by simp)).trans (show f 2 = _ from hf 2 (by kernel_rfl))
        exact Ri.wp_value _ (Ri.run_ld1 rfl e1 Tryz.underlying92 rfl ((((Q.refl w3).drew.trans hq).facts.1 g 6 hg3).trans K6.out)) rfl
      · refine ⟨rfl, fun f W hq hf A hA hB hO => ?_⟩
        have e1 := (hB 3 (by kernel_rfl)).trans (show _ = .pointer (some ⟨w.heap.size, 0, none⟩) by simp [Act.eval])
        exact Ri.wp_value _ (Ri.run_ldrow rfl e1 ((((Q.refl w3).drew.trans hq).below.block _ (blk_lt HB3.out)).trans HB3.out) Tryz.underlying111 rfl (by kernel_rfl)) rfl
    · intro f W hq hf A hAe hA hB
      have hqw : Q w3 W := hq
      have e1 := (hA 31 3 (by kernel_rfl) (by simp)).trans (show f 3 = _ from hf 3 (by simp))
      have e2 := (hA 32 4 (by kernel_rfl) (by simp)).trans (show f 4 = _ from hf 4 (by simp))
      refine Ri.wp_invoke rfl e1 (by kernel_rfl) HM.out HE.out #[.agg #[.int .i64 x, .slice (some ⟨row, 0, none⟩) n cap]] (by simp [e2]) ((HT3.out W hqw).mono ?_)
      rintro e W2 ⟨rfl, hd⟩
      refine ⟨_, rfl, ?_⟩
      have HEN := hide (HRES3.out W hqw W2 ⟨rfl, hd⟩)
      rw [hAe]
      simp only [Ri.acts, Act.put]
      clear hf hA hB hAe e1 e2 hq hqw hd HRES3 HM HE HT3
      go_wp2_with fail
      go_end0
      exact HEN.out
end Go.Proofs.YtdaklffbfadghaaGreat
