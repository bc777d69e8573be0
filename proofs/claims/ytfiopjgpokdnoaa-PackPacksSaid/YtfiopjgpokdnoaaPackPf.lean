/- note and longest, walked. Conditions: the slice reads as bytes. -/
import Derived.Test.YtfiopjgpokdnoaaPackPe
import Derived.Laws.Cover3
namespace Go.Proofs.Ytfiopjgpokdnoaa
open Go.RowKit PP
set_option linter.unusedVariables false
set_option linter.unusedSimpArgs false
theorem El_int : El Try.prog 42 3 1 8 := El.of (z := .int .i64 0) Try.underlying42 (by kernel_rfl) rfl (by decide) (by decide)
/-- three bytes at a place -/
theorem three_at {w : World} {A : Option Addr} {n c : Nat} {bs : List Nat} (h : Bytes w A n c bs) (j : Nat) (hj : j + 3 ≤ n) : ∃ b o x y z, A = some ⟨b, o, none⟩ ∧ b < w.heap.size ∧ x < 256 ∧ y < 256 ∧ z < 256 ∧ w.cell? ⟨b, o + j, none⟩ = some (.int .u8 (x : Nat)) ∧ w.cell? ⟨b, o + j + 1, none⟩ = some (.int .u8 (y : Nat)) ∧ w.cell? ⟨b, o + j + 1 + 1, none⟩ = some (.int .u8 (z : Nat)) := by
  have hl := h.len
  obtain ⟨b, o, x, rfl, hb, c1, hx, -, -⟩ := rd_byte h.rd h.small j (by omega)
  obtain ⟨b2, o2, y, e2, -, c2, hy, -, -⟩ := rd_byte h.rd h.small (j + 1) (by omega)
  obtain ⟨b3, o3, z, e3, -, c3, hz, -, -⟩ := rd_byte h.rd h.small (j + 1 + 1) (by omega)
  injection e2 with e2
  injection e2 with e21 e22 _
  injection e3 with e3
  injection e3 with e31 e32 _
  subst e21
  subst e22
  subst e31
  subst e32
  exact ⟨b, o, x, y, z, rfl, hb, hx, hy, hz, c1, c2, c3⟩
theorem heap_alloc_newP (w : World) (o : Obj) : (w.alloc o).heap[w.heap.size]? = some o := (MapKept.heap_alloc w o).1
theorem free_blkP {w : World} {g : Nat} {cs : Array Value} {t : TypeId} (h : w.heap[g]? = some (.cells cs t (0, 0))) (j : Nat) : w.frozen? ⟨g, j, none⟩ = false := by
  unfold World.frozen?
  rw [h]
  simp
theorem grown_b {w0 w w' : World} {row : Option Nat} {B : Nat} (hq : Below B w0 w) (hg : w.grownBy w' row) (hB : B ≤ w0.heap.size) (hr : ∀ k, row = some k → B ≤ k) : Below B w0 w' := by
  have hs := hq.size
  exact hq.trans ⟨hg.os, hg.tape, hg.output, hg.size, fun i hi => hg.block i (by omega) (fun e => by have := hr i e.symm; omega)⟩
set_option maxHeartbeats 2000000 in
set_option maxRecDepth 20000 in
theorem note_any (A : Option Addr) (n c : Nat) (bs : List Nat) (j mb : Nat) (w : World) (h : Bytes w A n c bs) (F : FM w mb j) (hj : j < n) (hn : n ≤ 20000) :
    Calls Try.prog 56 #[.map (some mb), .slice A n c, .int .i64 j] w fun e w' => e = .returned (.tuple #[]) ∧ FM w' mb (j + 1) ∧ w.grownBy w' (some mb) := by
  have hcap := h.cap
  have hmost := h.most
  have hni : (n : Int) ≤ 20000 := by omega
  have hji : (j : Int) < (n : Int) := by omega
  by_cases h3 : j + 3 ≤ n
  · have d0 : decide ((n : Int) < (j : Int) + 3) = false := decide_eq_false (by omega)
    obtain ⟨b, o, x, y, z, rfl, hb, hx, hy, hz, c1, c2, c3⟩ := three_at h j h3
    have HF := hide F
    have hml := F.lt
    have i1 : (j : Int) + 3 ≤ (c : Int) := by omega
    have i2 : j + 3 ≤ c := by omega
    have hat : ∀ W, (Instr.arrayAt 92 (.slice (some ⟨b, o + j, none⟩) 3 (c - j))).run Try.prog W = .ok (.pointer (some ⟨b, o + j, none⟩)) W := fun W => run_arrayAt W 92 _ 3 _ 3 (c - j) Try.underlying92 (Nat.le_refl _)
    clear h F
    go_enter Try.func56, Try.ntmps56
    go_upto_region 3 with (at_lookup; refine wpList_lookC rfl _ _ rfl rfl (HF.out.kept (((Q.refl w).alloc _).below.block mb hml)) rfl hx hy hz ?_; rintro v ⟨p1, p2, p3, p4, ev, l1, l2, l3, l4⟩; rw [ev]; clear ev)
    obtain ⟨w2, ew2⟩ : ∃ w2, w2 = (w.alloc (.cells #[.int .u8 x, .int .u8 y, .int .u8 z] 92)).alloc (.cells #[.int .i64 p1, .int .i64 p2, .int .i64 p3, .int .i64 p4] 91) := ⟨_, rfl⟩
    have HB1 : Hid (w2.heap[w.heap.size]? = some (.cells #[.int .u8 x, .int .u8 y, .int .u8 z] 92 (0, 0))) := by
      rw [ew2]
      exact (((Q.refl (w.alloc (.cells #[.int .u8 x, .int .u8 y, .int .u8 z] 92))).alloc _).below.block w.heap.size (by simp)).trans (heap_alloc_newP w _)
    have HB2 : Hid (w2.heap[w.heap.size + 1]? = some (.cells #[.int .i64 p1, .int .i64 p2, .int .i64 p3, .int .i64 p4] 91 (0, 0))) := by
      rw [ew2]
      have := heap_alloc_newP (w.alloc (.cells #[.int .u8 x, .int .u8 y, .int .u8 z] 92)) (.cells #[.int .i64 p1, .int .i64 p2, .int .i64 p3, .int .i64 p4] 91)
      have e : (w.alloc (.cells #[.int .u8 x, .int .u8 y, .int .u8 z] 92)).heap.size = w.heap.size + 1 := by simp
      rw [e] at this
      exact this
    have hs2 : w2.heap.size = w.heap.size + 2 := by rw [ew2]; simp
    have HQ2 : Hid (Q w w2) := by rw [ew2]; exact ((Q.refl w).alloc _).alloc _
    rw [← ew2]
    clear ew2 c1 c2 c3
    go_region_law (refine step_copyk rfl (.tmp 23) (.tmp 24) El_int rfl (w.heap.size + 1) 1 3 3 4 4 3 (some ⟨w.heap.size + 1, 1, none⟩) (some ⟨w.heap.size + 1, 0, none⟩) (by simp [Act.eval, Act.put]) (by simp [Act.eval, Act.put]) [.int .i64 p1, .int .i64 p2, .int .i64 p3, .int .i64 p4] 91 [.int .i64 p1, .int .i64 p2, .int .i64 p3] HB2.out rfl rfl (fun _ => ⟨rfl, _, rfl, fun q v hv => by rw [addr_add, Nat.zero_add, show (w2.drew).cell? ⟨w.heap.size + 1, q, none⟩ = _ from cell_of_row _ _ _ _ _ _ HB2.out]; match q, hv with | 0, hv => exact hv | 1, hv => exact hv | 2, hv => exact hv | q + 3, hv => exact absurd hv (by simp)⟩) (by simp) (fun v hv => by simp at hv; rcases hv with rfl | rfl | rfl <;> rfl) ?_; intro w6 HG6 hgr6 hs6)
    have hq6 : Q w w6 := grown_b HQ2.out.drew.below hgr6 (Nat.le_refl _) (fun k e => by injection e with e; omega)
    have k6 : w6.heap[w.heap.size + 1]? = some (.cells #[.int .i64 p1, .int .i64 p1, .int .i64 p2, .int .i64 p3] 91 (0, 0)) := HG6.out
    have k5 : w6.heap[w.heap.size]? = some (.cells #[.int .u8 x, .int .u8 y, .int .u8 z] 92 (0, 0)) := (hgr6.block w.heap.size (by show _ < w2.heap.size; omega) (by simp)).trans HB1.out
    have a0 : w6.cell? ⟨w.heap.size + 1, 0, none⟩ = some (.int .i64 p1) := by rw [cell_of_row _ _ _ _ _ _ k6]; rfl
    have a1 : w6.cell? ⟨w.heap.size + 1, 0 + 1, none⟩ = some (.int .i64 p1) := by rw [cell_of_row _ _ _ _ _ _ k6]; rfl
    have a2 : w6.cell? ⟨w.heap.size + 1, 0 + 1 + 1, none⟩ = some (.int .i64 p2) := by rw [cell_of_row _ _ _ _ _ _ k6]; rfl
    have a3 : w6.cell? ⟨w.heap.size + 1, 0 + 1 + 1 + 1, none⟩ = some (.int .i64 p3) := by rw [cell_of_row _ _ _ _ _ _ k6]; rfl
    have f0 := free_blkP k6 0
    have c1 : w6.cell? ⟨w.heap.size, 0, none⟩ = some (.int .u8 x) := by rw [cell_of_row _ _ _ _ _ _ k5]; rfl
    have c2 : w6.cell? ⟨w.heap.size, 0 + 1, none⟩ = some (.int .u8 y) := by rw [cell_of_row _ _ _ _ _ _ k5]; rfl
    have c3 : w6.cell? ⟨w.heap.size, 0 + 1 + 1, none⟩ = some (.int .u8 z) := by rw [cell_of_row _ _ _ _ _ _ k5]; rfl
    simp only [Nat.zero_add, Nat.reduceAdd] at a1 a2 a3 c2 c3
    have HQ6 := hide hq6
    have hs26 : w6.heap.size = w.heap.size + 2 := hs6.trans hs2
    clear HG6 hgr6 k6 k5 HB1 HB2 HQ2 hs6 hs2 hq6 hb
    go_wp2_with (at_mapUpdate; go_loud (refine wpList_updC (B' := j + 1) rfl _ _ _ rfl rfl (HF.out.kept ((HQ6.out.set (by simp) _).below.block mb hml)) (by omega) (by omega) rfl hx hy hz ⟨j + 1, p1, p2, p3, by simp [Act.eval], by omega, by omega, by omega, by omega⟩ ?_); intro w7 F7 hg7)
    go_end0
    have hq7 := HQ6.out.set (p := ⟨w.heap.size + 1, 0, none⟩) (by simp) (.int .i64 ((j : Int) + 1))
    have hsz := hq7.size
    exact ⟨rfl, F7, ⟨hg7.os.trans hq7.below.os, hg7.tape.trans hq7.below.tape, hg7.output.trans hq7.below.output, Nat.le_trans hsz hg7.size, fun k hk hne => (hg7.block k (by omega) hne).trans (hq7.below.block k hk)⟩⟩
  · have d0 : decide ((n : Int) < (j : Int) + 3) = true := decide_eq_true (by omega)
    have HF := hide F
    clear h F
    go_enter Try.func56, Try.ntmps56
    go_wp2_with fail
    refine bodyPost_ret (results_none rfl _ _ _) rfl ?_
    exact ⟨rfl, HF.out.mono (by omega), ⟨rfl, rfl, rfl, Nat.le_refl _, fun _ _ _ => rfl⟩⟩
end Go.Proofs.Ytfiopjgpokdnoaa
