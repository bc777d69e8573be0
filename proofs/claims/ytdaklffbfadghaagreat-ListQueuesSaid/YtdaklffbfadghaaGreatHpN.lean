/- take: a live block taken out. Conditions: the heap reads so; a block begins there. -/
import Derived.Test.YtdaklffbfadghaaGreatHpM
namespace Go.Proofs.YtdaklffbfadghaaGreat
open Go.RowKit HP
set_option linter.unusedVariables false
theorem delAt_flat (l : List Bk) (k : Nat) (hk : k < l.length) : (delAt l k 1).flatMap encBk = delAt (l.flatMap encBk) (k * 2) 2 := by
  have h1 : ∀ m, m ≤ l.length → l.flatMap encBk = (l.take m).flatMap encBk ++ (l.drop m).flatMap encBk ∧ ((l.take m).flatMap encBk).length = m * 2 := fun m hm =>
    ⟨by rw [← List.flatMap_append, List.take_append_drop], by rw [flatMap_length (k := 2) (fun _ => rfl), List.length_take]; omega⟩
  obtain ⟨a1, a2⟩ := h1 k (by omega)
  obtain ⟨b1, b2⟩ := h1 (k + 1) (by omega)
  unfold delAt
  rw [List.flatMap_append]
  congr 1
  · rw [a1, List.take_left' a2]
  · rw [b1, show k * 2 + 2 = (k + 1) * 2 by omega, List.drop_left' b2]
theorem delAt_mem {α : Type} {l : List α} {k m : Nat} {y : α} (h : y ∈ delAt l k m) : y ∈ l := by
  unfold delAt at h
  rcases List.mem_append.1 h with h | h
  · exact List.mem_of_mem_take h
  · exact List.mem_of_mem_drop h
theorem delAt_map {α β : Type} (f : α → β) (l : List α) (k m : Nat) : (delAt l k m).map f = delAt (l.map f) k m := by
  unfold delAt
  simp [List.map_take, List.map_drop]
theorem delAt_sub {α : Type} (l : List α) (k m : Nat) : (delAt l k m).Sublist l := by
  have : l = l.take k ++ l.drop k := (List.take_append_drop k l).symm
  conv => rhs; rw [this]
  refine List.Sublist.append (List.Sublist.refl _) ?_
  rw [← List.drop_drop]
  exact List.drop_sublist _ _
/-- the heap without a live block -/
def delH (h : Hp) (v : Value) (k : Nat) : Hp := { h with lv := v, bks := delAt h.bks k 1 }
def DelMid (w : World) (h : Hp) (k : Nat) (v : Value) (W : World) : Prop :=
  W.ownsRow 0 111 2 v (h.bks.length - 1) (delAt (h.bks.flatMap encBk) (k * 2) 2) ∧ w.grownBy W h.lv.ownBlock ∧ v.ownBlock = h.lv.ownBlock
theorem del_rep {w W : World} {h : Hp} {v : Value} {k : Nat} (H : HpR w h) (hg : w.grownBy W h.lv.ownBlock) (hv : W.ownsRow 0 111 2 v (h.bks.length - 1) (delAt (h.bks.flatMap encBk) (k * 2) 2)) (hk : k < h.bks.length) : HpR (W.setCell ⟨h.blk, 5, none⟩ v) (delH h v k) := by
  have hblk : W.heap[h.blk]? = w.heap[h.blk]? := hg.block _ (blk_lt H.cells) (fun e => H.ne_live e.symm rfl)
  have hcl := hblk.trans H.cells
  refine ⟨?_, ?_, ?_, ?_, ?_, ?_⟩
  · exact heap_setCell_same W h.blk 5 h.cells _ v hcl
  · show (W.setCell ⟨h.blk, 5, none⟩ v).ownsRow 0 _ 2 v (delAt h.bks k 1).length ((delAt h.bks k 1).flatMap encBk)
    rw [delAt_len _ _ _ (by omega), delAt_flat _ _ hk]
    refine own_same hv fun b hb => heap_setCell_other _ _ _ _ ?_
    obtain ⟨cs, e⟩ := own_blk hv hb
    exact ty_ne e hcl (by decide)
  · intro y hy
    have hy := H.rows y (delAt_mem hy)
    obtain ⟨cs, e⟩ := own_blk hy y.own
    have hne : y.row ≠ h.blk := ty_ne e H.cells (by decide)
    refine own_same hy fun b hb => ?_
    cases hb
    rw [heap_setCell_other _ _ _ _ hne]
    exact hg.block _ (hy.lt _ y.own).2 (fun e' => by
      obtain ⟨cs', e2⟩ := own_blk H.live e'.symm
      exact ty_ne e e2 (by decide) rfl)
  · intro e
    show (W.setCell ⟨h.blk, 5, none⟩ v).heap[h.wb]? = _
    rw [heap_setCell_other _ _ _ _ (H.ne_wb (.inl e)), hg.block _ (blk_lt (H.w1 e)) (fun e' => H.live_wb e'.symm (.inl e) rfl)]
    exact H.w1 e
  · intro e
    show (W.setCell ⟨h.blk, 5, none⟩ v).heap[h.wb]? = _
    rw [heap_setCell_other _ _ _ _ (H.ne_wb (.inr e)), hg.block _ (blk_lt (H.w2 e)) (fun e' => H.live_wb e'.symm (.inr e) rfl)]
    exact H.w2 e
  · show ((delAt h.bks k 1).map (·.row)).Nodup
    rw [delAt_map]
    exact H.apart.sublist (delAt_sub _ _ _)
/-- a store into a block of the call's own that is not the heap's -/
theorem Did.mine {w w1 : World} {h h1 : Hp} (a : Did w h w1 h1) (b : Nat) (hb : w.heap.size ≤ b) (hn : ¬ h1.fp b) (o : Nat) (u : Value) : Did w h (w1.setCell ⟨b, o, none⟩ u) h1 :=
  ⟨a.rep.same fun i hi => heap_setCell_other _ _ _ _ (fun e => hn (by have e : i = b := e; rw [← e]; exact hi)), ⟨a.turn.os, a.turn.tape, a.turn.output, by simp [World.setCell]; exact a.turn.size, fun i hi hn' => (heap_setCell_other _ _ _ _ (show i ≠ b by omega)).trans (a.turn.block i hi hn')⟩, a.blk, a.fp⟩
def TakePost (w : World) (h : Hp) (k : Nat) (x : Bk) (e : Ending) (w' : World) : Prop :=
  e = .returned (.agg #[.int .i64 x.pb.1, x.bv]) ∧ ∃ v, Did w h w' { delH h v k with top := goneTop (delH h v k) x.pb }
set_option maxHeartbeats 4000000 in
set_option maxRecDepth 100000 in
theorem take_any (h : Hp) (k : Nat) (y : Bk) (w : World) (H : HpR w h) (hkd : 0 ≤ h.kind ∧ h.kind ≤ 3) (hlen : h.bks.length ≤ 100) (hF : Fit h.size (h.bks.map (·.pb))) (hy : h.bks[k]? = some y) :
    Calls Tryz.prog 127 #[h.ptr, .int .i64 y.pb.1] w (TakePost w h k y) := by
  obtain ⟨A, c, hlv, hS, k5, hb⟩ := H.open_
  have hkl : k < h.bks.length := (List.getElem?_eq_some_iff.1 hy).1
  have hyp : (h.bks.map (·.pb))[k]? = some y.pb := by rw [List.getElem?_map, hy]; rfl
  obtain ⟨hy0, hy1, hy2⟩ := hF.inn y.pb (List.mem_of_getElem? hyp)
  have hsz := hF.sz.2
  unfold pend at hy2
  have hbel : below (h.bks.map (·.pb)) y.pb.1 = k := below_eq hF _ k (by rw [List.length_map]; omega) (fun j x hj hx => (hF.lt hx hyp hj).1) (fun j x hj hx => by
    rcases Nat.lt_or_eq_of_le hj with h3 | h3
    · have := (hF.lt hyp hx h3).1
      omega
    · subst h3
      rw [hyp] at hx
      cases hx
      exact Int.le_refl _)
  obtain ⟨x, hxe⟩ : ∃ x, x = y.pb.1 := ⟨_, rfl⟩
  obtain ⟨n, hne⟩ : ∃ n, n = y.pb.2.length := ⟨_, rfl⟩
  obtain ⟨row, hre⟩ : ∃ row, row = y.row := ⟨_, rfl⟩
  obtain ⟨cap, hce⟩ : ∃ cap, cap = y.cap := ⟨_, rfl⟩
  have hbv : y.bv = .slice (some ⟨row, 0, none⟩) n cap := by rw [hne, hre, hce]; rfl
  have HFIND : Hid (∀ W, Q w W → Calls Tryz.prog 96 #[.pointer (some ⟨h.blk, 4, none⟩), .int .i64 x] W fun e w' => e = .returned (.tuple #[.int .i64 (k : Int), .bool true]) ∧ Q W w') := fun W hW => by
    refine (find_any h x W (H.q hW) (by omega) hF (by omega) (by omega)).mono ?_
    rintro e w' ⟨k', rfl, _, hkb, hq⟩
    have hh : has (h.bks.map (·.pb)) x = true := by
      rw [has_iff hF]
      exact ⟨y.pb, by rw [hxe, hbel]; exact hyp, hxe.symm⟩
    rw [hkb (by omega), hxe, hbel, ← hxe, hh]
    exact ⟨rfl, hq⟩
  have HDEL : Hid (∀ w0, Q w w0 → Calls Tryz.prog 139 #[.slice A h.bks.length c, .int .i64 (k : Int), .int .i64 ((k : Int) + 1)] w0 fun e w' => ∃ v, e = .returned v ∧ DelMid w0 h k v w') := fun w0 hw0 => by
    have hown := (H.q hw0).live
    rw [hlv] at hown
    refine (delete_any A h.bks.length c k (h.bks.flatMap encBk) w0 hown (by omega) hkl enc_one).mono ?_
    rintro e w' ⟨v, rfl, hvb, hv, hg⟩
    exact ⟨v, rfl, hv, by rw [hlv]; exact hg, by rw [hlv]; exact hvb⟩
  have HEND : Hid (∀ w0, Q w w0 → ∀ v W, DelMid w0 h k v W → HpR (W.setCell ⟨h.blk, 5, none⟩ v) (delH h v k) ∧ W.cell? ⟨h.blk, 5, none⟩ = some (.slice A h.bks.length c) ∧ W.frozen? ⟨h.blk, 5, none⟩ = false ∧ Did w h (W.setCell ⟨h.blk, 5, none⟩ v) (delH h v k) ∧ w0.heap.size ≤ W.heap.size ∧ ∃ cs ty fr, v = .slice cs ty fr) := fun w0 hw0 v W ⟨hv, hg, hbk⟩ => by
    have H0 := H.q hw0
    have hblk : W.heap[h.blk]? = w0.heap[h.blk]? := hg.block _ (blk_lt H0.cells) (fun e => H0.ne_live e.symm rfl)
    have hR := del_rep H0 hg hv hkl
    refine ⟨hR, ?_, frozen_of_row _ _ _ _ _ (hblk.trans H0.cells), ⟨hR, (((Turn.of_q hw0).grown hg (fun b e _ => .inr (.inl e))).set (.inl rfl) _), rfl, fun b hb => .inl ?_⟩, hg.size, ?_⟩
    · rw [cell_of_row _ _ _ _ _ _ (hblk.trans H0.cells)]
      show some h.lv = _
      rw [hlv]
    · rcases hb with hf | hf | ⟨z, hz, hf⟩ | hf
      · exact .inl hf
      · exact .inr (.inl (hbk.symm.trans hf))
      · exact .inr (.inr (.inl ⟨z, delAt_mem hz, hf⟩))
      · exact .inr (.inr (.inr hf))
    · obtain ⟨A', c', e, _⟩ := own_form hv
      exact ⟨A', _, c', e⟩
  have HGN : Hid (∀ v W, HpR W (delH h v k) → ∃ ty u f rcv, W.cell? ⟨h.blk, 6, none⟩ = some (.iface ty u) ∧ (∀ w, (method 299 ty u "mandrel/heap.gone").run Tryz.prog w = .ok (f, rcv) w) ∧ (∀ args w, (callFunc f args).run Tryz.prog w = .ok (.enter f args) w) ∧
      ∀ W', Q W W' → Calls Tryz.prog f #[rcv, .agg #[.int .i64 x, .slice (some ⟨row, 0, none⟩) n cap]] W' (TopPost (goneTop (delH h v k) y.pb) W' (delH h v k))) := fun v W HR => by
    obtain ⟨f, rcv, ⟨ty, u, e1, e2, e3⟩, hc⟩ := gone_any (delH h v k) hkd (by show (delAt h.bks k 1).length ≤ 100; rw [delAt_len _ _ _ (by omega)]; omega)
    refine ⟨ty, u, f, rcv, ?_, e2, e3, fun W' hW' => ?_⟩
    · have := HR.cell 6
      rw [show (delH h v k).blk = h.blk from rfl] at this
      rw [this, ← e1]
      rfl
    · have := hc y.pb (some ⟨row, 0, none⟩) cap W' (HR.q hW')
      rw [← hxe, ← hne] at this
      exact this
  obtain ⟨gl, o1, y', hA, hgl, hy', x1, x2⟩ := hS.bk k hkl
  rw [hy] at hy'
  cases hy'
  subst hA
  rw [← hxe] at x1
  rw [← hre, ← hne, ← hce] at x2
  have HLT : Hid (∀ b, h.fp b → b < w.heap.size) := H.lt
  have HLV : Hid (∀ b, h.lv.ownBlock = some b → b < w.heap.size) := fun b hb => (H.live.lt b hb).2
  have HRES : Hid (∀ v W, v.ownBlock = h.lv.ownBlock → Did w h W { delH h v k with top := goneTop (delH h v k) y.pb } → ∀ u1 u2, TakePost w h k y (.returned (.agg #[.int .i64 x, .slice (some ⟨row, 0, none⟩) n cap])) ((W.setCell ⟨w.heap.size, 0, none⟩ u1).setCell ⟨w.heap.size, 1, none⟩ u2)) := fun v W hvb hd u1 u2 => ⟨by rw [hxe, hbv], v, (hd.mine w.heap.size (Nat.le_refl _) (fun e => by
    rcases e with e | e | ⟨z, hz, e⟩ | e
    · have := blk_lt H.cells; have e : w.heap.size = h.blk := e; omega
    · have := (H.live.lt _ (hvb.symm.trans e)).2; omega
    · have := ((H.rows z (delAt_mem hz)).lt _ z.own).2; omega
    · have := H.lt _ (.inr (.inr (.inr e))); omega) 0 u1).mine w.heap.size (Nat.le_refl _) (fun e => by
    rcases e with e | e | ⟨z, hz, e⟩ | e
    · have := blk_lt H.cells; have e : w.heap.size = h.blk := e; omega
    · have := (H.live.lt _ (hvb.symm.trans e)).2; omega
    · have := ((H.rows z (delAt_mem hz)).lt _ z.own).2; omega
    · have := H.lt _ (.inr (.inr (.inr e))); omega) 1 u2⟩
  unfold Hp.ptr
  rw [← hxe]
  obtain ⟨g, hg⟩ : ∃ g, g = h.blk := ⟨_, rfl⟩
  obtain ⟨nl, hnl⟩ : ∃ nl, nl = h.bks.length := ⟨_, rfl⟩
  rw [← hnl] at k5 HDEL HEND hkl hlen
  rw [← hg] at k5 hb HFIND HEND HGN ⊢
  have hkli : (k : Int) < (nl : Int) := by omega
  have hnli : (nl : Int) ≤ 100 := by omega
  have HGB := hide hg
  clear hg hnl H hS hF hxe hne hre hce hbv hlv hy hyp hbel hy0 hy1 hy2 hsz hkd
  go_enter Tryz.func127, Tryz.ntmps127
  go_wp2_with fail
  refine (HFIND.out _ (by repeat (first | exact Q.refl _ | assumption | refine Q.drew ?_ | refine Q.drewN ?_ _ | refine Q.alloc ?_ _ | refine Q.set ?_ (by first | (simp; done) | (simp; omega) | omega) _ | refine Q.trans ?_ (by assumption)))).mono ?_
  rintro e w2 ⟨rfl, hq2⟩
  have hq02 : Q w w2 := Q.trans (by repeat (first | exact Q.refl _ | assumption | refine Q.drew ?_ | refine Q.drewN ?_ _ | refine Q.alloc ?_ _ | refine Q.set ?_ (by first | (simp; done) | (simp; omega) | omega) _ | refine Q.trans ?_ (by assumption))) hq2
  have k5b := (hq02.facts.1 g 5 hb).trans k5
  have y1 := (hq02.facts.1 gl _ hgl).trans x1
  have y2 := (hq02.facts.1 gl _ hgl).trans x2
  have hb2 : w2.heap[w.heap.size]? = some (.cells #[.int .i64 0, .slice none 0 0] 111 (0, 0)) := (hq2.below.block _ (by simp)).trans (heap_alloc_new w _)
  have hs2 := hq02.size
  have hs3 : w.heap.size < w2.heap.size := blk_lt hb2
  have HB2 := hide hb2
  have HQ02 := hide hq02
  have hg2 : g < w2.heap.size := by omega
  have hgn : ¬ g = w2.heap.size := by omega
  obtain ⟨w3, hw3⟩ : ∃ w3, w2.alloc (.cells #[.int .i64 x, .slice (some ⟨row, 0, none⟩) n cap] 111) = w3 := ⟨_, rfl⟩
  have hq3 : Q w w3 := by rw [← hw3]; exact hq02.alloc _
  have hb3 : w3.heap[w.heap.size]? = some (.cells #[.int .i64 0, .slice none 0 0] 111 (0, 0)) := by rw [← hw3, heap_alloc_old _ _ hs3]; exact HB2.out
  have hb4 : w3.heap[w2.heap.size]? = some (.cells #[.int .i64 x, .slice (some ⟨row, 0, none⟩) n cap] 111 (0, 0)) := by rw [← hw3]; exact heap_alloc_new _ _
  have HW3 := hide hw3
  have HQ3 := hide hq3
  have HB3 := hide hb3
  have HB4 := hide hb4
  clear hb2 hq02 hq2 k5 x1 x2 hw3 hq3 hb3 hb4
  go_wp2_with fail
  rw [HW3.out]
  refine (HDEL.out w3 HQ3.out).mono ?_
  rintro e w4 ⟨v, rfl, hm⟩
  obtain ⟨hR, c5, f5, hD, hs4, ⟨sa, sn, sc, hvs⟩⟩ := HEND.out w3 HQ3.out v w4 hm
  have hb3' : (w4.setCell ⟨g, 5, none⟩ v).heap[w.heap.size]? = some (.cells #[.int .i64 0, .slice none 0 0] 111 (0, 0)) := by
    rw [heap_setCell_other _ _ _ _ (show w.heap.size ≠ g by omega), hm.2.1.block _ (blk_lt HB3.out) (fun e => by have := HLV.out _ e.symm; omega)]
    exact HB3.out
  have hb4' : (w4.setCell ⟨g, 5, none⟩ v).heap[w2.heap.size]? = some (.cells #[.int .i64 x, .slice (some ⟨row, 0, none⟩) n cap] 111 (0, 0)) := by
    rw [heap_setCell_other _ _ _ _ (show w2.heap.size ≠ g by omega), hm.2.1.block _ (blk_lt HB4.out) (fun e => by have := HLV.out _ e.symm; omega)]
    exact HB4.out
  have hs5 : (w4.setCell ⟨g, 5, none⟩ v).heap.size = w4.heap.size := by simp [World.setCell]
  obtain ⟨ty, u, fT, rcv, k6, hmeth, hent, hGC⟩ := HGN.out v _ hR
  obtain ⟨w5, hw5⟩ : ∃ w5, w5 = w4.setCell ⟨g, 5, none⟩ v := ⟨_, rfl⟩
  have hFP : ∀ b, (delH h v k).fp b → b < w.heap.size := fun b hb => by
    rcases hD.fp b hb with hf | hf
    · exact HLT.out b hf
    · exact absurd hf (by
        have := hR.lt b hb
        rcases hb with hf' | hf' | ⟨z, hz, hf'⟩ | hf'
        · have h2 := hf'.trans HGB.out.symm; omega
        · have := HLV.out b (hm.2.2.symm.trans hf'); omega
        · have := HLT.out b (.inr (.inr (.inl ⟨z, delAt_mem hz, hf'⟩))); omega
        · have := HLT.out b (.inr (.inr (.inr hf'))); omega)
  rw [← hw5] at k6 hGC hb3' hb4' hs5 hD
  have K6 := hide k6
  have HM := hide hmeth
  have HE := hide hent
  have HT3 := hide hGC
  have HB3' := hide hb3'
  have HB4' := hide hb4'
  have HD := hide hD
  have HFP := hide hFP
  have HS4 := hide hs4
  have HS5 := hide hs5
  have HW5 := hide hw5
  have HVB := hide hm.2.2
  clear hb3' hb4' hR hD hm hs4 hs5 k6 hmeth hent hGC hFP HEND HDEL HGN HFIND HB3 HB4 HB2 HW3 y1 y2 k5b hw5
  subst hvs
  go_wp2_with fail
  rw [← HW5.out]
  have hg5 : g < w5.heap.size := by have := HS4.out; have := HS5.out; have := HQ3.out.size; omega
  refine Ri.made_last (Ri.phi [Ri.isV (.pointer (some ⟨g, 0, none⟩)), Ri.isV (.pointer (some ⟨g, 0, none⟩)), Ri.isV (.pointer (some ⟨g, 6, none⟩)), Ri.isV (.iface ty u), Ri.isV (.agg #[.int .i64 x, .slice (some ⟨row, 0, none⟩) n cap])]) (by kernel_rfl) (by kernel_rfl) rfl (by kernel_rfl) rfl (Ri.phi_mono ?_) ?_ ?_
  · exact ⟨Ri.mono_isV _, Ri.mono_isV _, Ri.mono_isV _, Ri.mono_isV _, Ri.mono_isV _, trivial⟩
  · refine Ri.All.cons ?_ (Ri.All.cons ?_ (Ri.All.cons ?_ (Ri.All.cons ?_ (Ri.All.cons ?_ (Ri.All.nil)))))
    · refine ⟨rfl, fun f W hq hf A hA hB hO => ?_⟩
      have e1 := (hB 0 (by kernel_rfl)).trans (show _ = .pointer (some ⟨g, 0, none⟩) by simp [Act.eval])
      exact Ri.wp_value _ (Ri.run_mv rfl e1) rfl
    · refine ⟨rfl, fun f W hq hf A hA hB hO => ?_⟩
      have e1 := (hA 37 0 (by kernel_rfl) (by simp)).trans (show f 0 = _ from hf 0 (by kernel_rfl))
      exact Ri.wp_value _ (Ri.run_nil rfl e1) rfl
    · refine ⟨rfl, fun f W hq hf A hA hB hO => ?_⟩
      have e1 := (hA 38 1 (by kernel_rfl) (by simp)).trans (show f 1 = _ from hf 1 (by kernel_rfl))
      exact Ri.wp_value _ (Ri.run_fld (f := _) rfl e1 Tryz.underlying94 rfl (sz := 0) (by kernel_rfl)) rfl
    · refine ⟨rfl, fun f W hq hf A hA hB hO => ?_⟩
      have e1 := (hA 39 2 (by kernel_rfl) (by simp)).trans (show f 2 = _ from hf 2 (by kernel_rfl))
      exact Ri.wp_value _ (Ri.run_ld1 rfl e1 Tryz.underlying92 rfl ((((Q.refl w5).drew.trans hq).facts.1 g 6 hg5).trans K6.out)) rfl
    · refine ⟨rfl, fun f W hq hf A hA hB hO => ?_⟩
      have e1 := (hB 7 (by kernel_rfl)).trans (show _ = .pointer (some ⟨w2.heap.size, 0, none⟩) by simp [Act.eval])
      exact Ri.wp_value _ (Ri.run_ldrow rfl e1 ((((Q.refl w5).drew.trans hq).below.block _ (blk_lt HB4'.out)).trans HB4'.out) Tryz.underlying111 rfl (by kernel_rfl)) rfl
  · intro f W hq hf A hAe hA hB
    have hqw : Q w5 W := hq
    have e1 := (hA 40 3 (by kernel_rfl) (by simp)).trans (show f 3 = _ from hf 3 (by simp))
    have e2 := (hA 41 4 (by kernel_rfl) (by simp)).trans (show f 4 = _ from hf 4 (by simp))
    refine Ri.wp_invoke rfl e1 (by kernel_rfl) HM.out HE.out #[.agg #[.int .i64 x, .slice (some ⟨row, 0, none⟩) n cap]] (by simp [e2]) ((HT3.out W hqw).mono ?_)
    rintro e W2 ⟨rfl, hd⟩
    refine ⟨_, rfl, ?_⟩
    have hk : ∀ b, w.heap.size ≤ b → b < w5.heap.size → W2.heap[b]? = w5.heap[b]? := fun b h1 h2 => (hd.turn.block b (by have := hqw.size; omega) (fun e => by have := HFP.out b e; omega)).trans (hqw.below.block b h2)
    have hB0 := (hk _ (Nat.le_refl _) (blk_lt HB3'.out)).trans HB3'.out
    have hB1 := (hk _ hs2 (blk_lt HB4'.out)).trans HB4'.out
    have HRW := hide (HRES.out _ W2 HVB.out ((HD.out.q hqw).trans hd))
    rw [hAe]
    simp only [Ri.acts, Act.put]
    have z0 : W2.cell? ⟨w2.heap.size, 0, none⟩ = some (.int .i64 x) := by rw [cell_of_row _ _ _ _ _ _ hB1]; rfl
    have z1 : W2.cell? ⟨w2.heap.size, 1, none⟩ = some (.slice (some ⟨row, 0, none⟩) n cap) := by rw [cell_of_row _ _ _ _ _ _ hB1]; rfl
    have HB0 := hide hB0
    have t0 : W2.cell? ⟨w.heap.size, 0, none⟩ = some (.int .i64 0) := by rw [cell_of_row _ _ _ _ _ _ hB0]; rfl
    have t1 : W2.cell? ⟨w.heap.size, 1, none⟩ = some (.slice none 0 0) := by rw [cell_of_row _ _ _ _ _ _ hB0]; rfl
    have f0 : W2.frozen? ⟨w.heap.size, 0, none⟩ = false := frozen_of_row _ _ _ _ _ hB0
    have f1 : W2.frozen? ⟨w.heap.size, 1, none⟩ = false := frozen_of_row _ _ _ _ _ hB0
    clear hf hA hB hAe e1 e2 hq hqw hd HM HE HT3 hk hB0 hB1 HRES HD HFP
    go_wp2_with fail
    have h1 := heap_setCell_same W2 w.heap.size 0 _ _ (Value.int .i64 x) HB0.out
    have h2 := heap_setCell_same _ w.heap.size 1 _ _ (Value.slice (some ⟨row, 0, none⟩) n cap) h1
    refine bodyPost_ret (v := .agg #[.int .i64 x, .slice (some ⟨row, 0, none⟩) n cap]) (results_cell_row rfl _ _ w.heap.size _ _ _ _ (by simp) h2 Tryz.underlying111 rfl (by kernel_rfl)) rfl ?_
    exact HRW.out _ _
end Go.Proofs.YtdaklffbfadghaaGreat
