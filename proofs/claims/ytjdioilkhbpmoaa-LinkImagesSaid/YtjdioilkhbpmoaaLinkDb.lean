/- The walk of Drop's closure: one name. Conditions: as each theorem says. -/
import Derived.Test.YtjdioilkhbpmoaaLinkDp
namespace Go.Proofs.Ytjdioilkhbpmoaa
open Go.RowKit LK
set_option linter.unusedVariables false
/-- Drop's memory: the layout's cell B, the marks' row z (in cell nb), the queue (in cell tb) -/
structure DM (w wr : World) (B z nb tb mb n : Nat) (T : Tab) (N : List Bool) (ao : Option Addr) (cap : Nat) (rest : List Int) : Prop where
  q : Q w wr
  mp : MpR wr mb T
  lay : wr.cell? ⟨B, 2, none⟩ = some (.map (some mb))
  nd : wr.cell? ⟨nb, 0, none⟩ = some (.slice (some ⟨z, 0, none⟩) n n)
  nw : wr.ownsRow w.heap.size 4 1 (.slice (some ⟨z, 0, none⟩) n n) n (N.map Value.bool)
  td : wr.heap[tb]? = some (.cells #[.slice ao rest.length cap] 25 (0, 0))
  tl : Tl wr (tb + 1) ao cap rest
  o : mb < B ∧ B < z ∧ z < nb ∧ nb < tb ∧ w.heap.size ≤ B
theorem DM.lt {w wr : World} {B z nb tb mb n : Nat} {T : Tab} {N : List Bool} {ao : Option Addr} {cap : Nat} {rest : List Int} (h : DM w wr B z nb tb mb n T N ao cap rest) : tb < wr.heap.size := (Array.getElem?_eq_some_iff.1 h.td).1
/-- nothing that was there has turned -/
theorem DM.up {w wr w' : World} {B z nb tb mb n : Nat} {T : Tab} {N : List Bool} {ao : Option Addr} {cap : Nat} {rest : List Int} (h : DM w wr B z nb tb mb n T N ao cap rest) (hq : Q wr w') : DM w w' B z nb tb mb n T N ao cap rest := by
  have hl := h.lt
  obtain ⟨o1, o2, o3, o4, o5⟩ := h.o
  exact ⟨h.q.trans hq, h.mp.up hq, (hq.facts.1 _ _ (by omega)).trans h.lay, (hq.facts.1 _ _ (by omega)).trans h.nd, own_q h.nw hq, (hq.below.block _ hl).trans h.td, h.tl.up hq, h.o⟩
/-- a mark is set -/
theorem DM.mark {w wr : World} {B z nb tb mb n : Nat} {T : Tab} {N : List Bool} {ao : Option Addr} {cap : Nat} {rest : List Int} (h : DM w wr B z nb tb mb n T N ao cap rest) (k : Nat) (b : Bool) : DM w (wr.setCell ⟨z, k, none⟩ (.bool b)) B z nb tb mb n T (N.set k b) ao cap rest := by
  obtain ⟨o1, o2, o3, o4, o5⟩ := h.o
  refine ⟨h.q.set (by simp <;> omega) _, h.mp.kept grown_cell (by simp <;> omega), ?_, ?_, ?_, ?_, h.tl.kept grown_cell (fun r e => by cases e; omega), h.o⟩
  · rw [World.cell?_setCell_other _ _ _ _ (by simp <;> omega)]; exact h.lay
  · rw [World.cell?_setCell_other _ _ _ _ (by simp <;> omega)]; exact h.nd
  · rw [List.map_set]; exact own_set h.nw k _
  · exact (heap_setCell_other wr ⟨z, k, none⟩ _ _ (by simp <;> omega)).trans h.td
/-- the queue grows -/
theorem DM.push {w wr w5 : World} {B z nb tb mb n : Nat} {T : Tab} {N : List Bool} {ao A : Option Addr} {cap c : Nat} {rest rest' : List Int} (h : DM w wr B z nb tb mb n T N ao cap rest) {row : Option Nat} (hg : wr.grownBy w5 row) (hr : ∀ r, row = some r → tb + 1 ≤ r) (ht : Tl w5 (tb + 1) A c rest') :
    DM w (w5.setCell ⟨tb, 0, none⟩ (.slice A rest'.length c)) B z nb tb mb n T N A c rest' := by
  obtain ⟨o1, o2, o3, o4, o5⟩ := h.o
  have hl := h.lt
  have hne : ∀ b, b ≤ tb → some b ≠ row := fun b hb e => by have := hr b e.symm; omega
  have htd : w5.heap[tb]? = some (.cells #[.slice ao rest.length cap] 25 (0, 0)) := (hg.block tb hl (hne tb (Nat.le_refl _))).trans h.td
  have hq5 : Q w w5 := q_grown h.q hg (fun r e => by have := hr r e; omega)
  refine ⟨hq5.set (by simp <;> omega) _, (h.mp.kept hg (hne mb (by omega))).kept grown_cell (by simp <;> omega), ?_, ?_, ?_, ?_, ht.kept grown_cell (fun r e => by cases e; omega), h.o⟩
  · rw [World.cell?_setCell_other _ _ _ _ (by simp <;> omega), hg.cell_far ⟨B, 2, none⟩ (show B < wr.heap.size by omega) (hne B (by omega))]; exact h.lay
  · rw [World.cell?_setCell_other _ _ _ _ (by simp <;> omega), hg.cell_far ⟨nb, 0, none⟩ (show nb < wr.heap.size by omega) (hne nb (by omega))]; exact h.nd
  · exact (h.nw.kept hg (.inr (hne z (by omega)))).kept grown_cell (.inr (by simp [Value.ownBlock]; omega))
  · exact (heap_setCell_same w5 tb 0 _ _ _ htd).trans rfl
set_option maxRecDepth 100000 in
set_option maxHeartbeats 4000000 in
theorem need_any (w wr : World) (B z nb tb mb n : Nat) (T : Tab) (N : List Bool) (ao : Option Addr) (cap : Nat) (rest : List Int) (nm : ByteArray) (h : DM w wr B z nb tb mb n T N ao cap rest) (hN : N.length = n) (hn8 : n ≤ 8) (hT : ∀ p q, lookS T nm = some (p, q) → 0 ≤ p ∧ p < (n : Int)) (hr : rest.length ≤ 1000) (hs : nm.size ≤ 9223372036854775807) :
    Calls Try.prog 50 #[.string nm, .pointer (some ⟨B, 0, none⟩), .pointer (some ⟨nb, 0, none⟩), .pointer (some ⟨tb, 0, none⟩)] wr fun e w' => e = .returned (.bool (objAt T nm).isSome) ∧ ∃ ao' cap', DM w w' B z nb tb mb n T (nextN T N nm) ao' cap' (nextR T N rest nm) := by
  have hl := h.lt
  obtain ⟨o1, o2, o3, o4, o5⟩ := h.o
  have k2 := h.lay
  have HM := hide h.mp
  have H := hide h
  have hBl : B < wr.heap.size := by omega
  cases hlk : lookS T nm with
  | none =>
    have HK := hide hlk
    have E := hide (show objAt T nm = none by unfold objAt; rw [hlk]; rfl)
    clear h hlk
    go_enter Try.func50, Try.ntmps50
    go_wp2_with (at_lookup; refine wpList_lookN rfl _ _ rfl rfl HM.out nm rfl hs HK.out ?_)
    go_ret
    refine ⟨by rw [E.out]; rfl, ao, cap, ?_⟩
    unfold nextN nextR
    rw [E.out]
    exact H.out.up ((Q.refl wr).alloc _)
  | some pq =>
    obtain ⟨p, q⟩ := pq
    obtain ⟨p0, p1⟩ := hT p q hlk
    obtain ⟨k, rfl⟩ : ∃ k : Nat, p = (k : Int) := ⟨p.toNat, by omega⟩
    have hkn : k < n := by omega
    have HK := hide hlk
    have E := hide (show objAt T nm = some k by unfold objAt; rw [hlk]; simp)
    obtain ⟨b, hb⟩ : ∃ b, N[k]? = some b := ⟨_, List.getElem?_eq_getElem (by omega)⟩
    have kn := h.nd
    obtain ⟨_, _, e0, _, hzs, _, _, hcl, hfz⟩ := own_at h.nw (by omega)
    cases e0
    have kz := hcl k (.bool b) (by rw [List.getElem?_map, hb]; rfl)
    have fz := hfz k
    have htd := h.td
    have hnl : nb < wr.heap.size := by omega
    have hki : (k : Int) < (n : Int) := p1
    have HB := hide hb
    have hq1 : Q wr (wr.alloc (.cells #[.int .i64 k, .int .i64 q] 83)) := (Q.refl wr).alloc _
    have HD1 := hide (h.up hq1)
    clear h hlk hb hcl hfz hq1
    cases b with
    | true =>
      clear htd
      go_enter Try.func50, Try.ntmps50
      go_wp2_with (at_lookup; refine wpList_lookF rfl _ _ rfl rfl HM.out nm rfl hs HK.out ?_)
      go_ret
      refine ⟨by rw [E.out]; rfl, ao, cap, ?_⟩
      unfold nextN nextR
      rw [E.out]
      dsimp only
      rw [if_pos HB.out, set_true_same HB.out]
      exact HD1.out
    | false =>
      have ktd := cell_blk htd 0
      simp only [List.getElem?_toArray, List.getElem?_cons_zero] at ktd
      have ftd := free_blk htd 0
      clear htd
      have HD2 := hide (((H.out.mark k true).up ((Q.refl _).alloc (.cells #[.int .i64 k, .int .i64 q] 83))).up ((Q.refl _).alloc (.cells #[.int .i64 k] 3)))
      have HX := hide (show (((wr.setCell ⟨z, k, none⟩ (.bool true)).alloc (.cells #[.int .i64 k, .int .i64 q] 83)).alloc (.cells #[.int .i64 k] 3)).cell? ⟨wr.heap.size + 1, 0, none⟩ = some (.int .i64 k) by
        have := World.cell?_alloc_new ((wr.setCell ⟨z, k, none⟩ (.bool true)).alloc (.cells #[.int .i64 k, .int .i64 q] 83)) #[.int .i64 k] 3 0
        simpa using this)
      have HS := hide (show tb + 1 ≤ (((wr.setCell ⟨z, k, none⟩ (.bool true)).alloc (.cells #[.int .i64 k, .int .i64 q] 83)).alloc (.cells #[.int .i64 k] 3)).heap.size from HD2.out.lt)
      go_enter Try.func50, Try.ntmps50
      go_wp2_with (first | (at_lookup; refine wpList_lookF rfl _ _ rfl rfl HM.out nm rfl hs HK.out ?_) | (at_builtin; go_loud (refine wpList_tl rfl _ _ rfl rfl rfl HD2.out.tl El_int rfl HX.out hr HS.out ?_; intro A c w5 row htl hg hrw; have ht5 := (hg.block tb HS.out (fun e => by have := hrw tb e.symm; omega)).trans HD2.out.td; have kt5 := cell_blk ht5 0; simp only [List.getElem?_toArray, List.getElem?_cons_zero] at kt5; have ft5 := free_blk ht5 0; have HF := hide (HD2.out.push hg hrw htl); clear htl hg hrw ht5)))
      go_ret
      refine ⟨by rw [E.out]; rfl, A, c, ?_⟩
      unfold nextN nextR
      rw [E.out]
      dsimp only
      rw [if_neg (by rw [HB.out]; simp)]
      have hF := HF.out
      rw [List.length_append] at hF
      exact hF
end Go.Proofs.Ytjdioilkhbpmoaa
