/- The walks of package lex's classes, run, isSign and first. Conditions: as each theorem says. -/
import Derived.Test.YtofigpjabamnhaaDoorRows
import Derived.Test.YtofigpjabamnhaaDoorApp
import Derived.Test.YtofigpjabamnhaaDoorLexPlain
import Derived.WalkLawsBesides
import Derived.WalkSpells
import Derived.Outline
import Derived.Laws.Tables
namespace Go.Proofs.YtofigpjabamnhaaDoor
open Go.RowKit LX
set_option linter.unusedVariables false
/-- the table as it stands when some letters and digits are in: an array of 256 values -/
def clV (f : Nat → Nat) : Array Value := (Array.range 256).map fun i => .int .u8 (f i : Int)
theorem clV_size (f : Nat → Nat) : (clV f).size = 256 := by simp [clV]
theorem clV_get (f : Nat → Nat) (i : Nat) (h : i < 256) : (clV f)[i]? = some (.int .u8 (f i : Int)) := by
  unfold clV
  rw [Array.getElem?_map, Array.getElem?_range, if_pos h]
  rfl
theorem clV_set (f : Nat → Nat) (i v : Nat) : (clV f).setIfInBounds i (.int .u8 (v : Int)) = clV (fun j => if j = i then v else f j) := by
  apply Array.ext
  · simp [clV]
  · intro j h1 h2
    simp only [clV, Array.size_map, Array.size_range, Array.size_setIfInBounds] at h1 h2
    rw [Array.getElem_setIfInBounds (by simpa [clV] using h1)]
    by_cases e : i = j
    · subst e; simp [clV]
    · simp [clV, e, Ne.symm e]
theorem clV_congr {f g : Nat → Nat} (h : ∀ i, i < 256 → f i = g i) : clV f = clV g := by
  apply Array.ext
  · simp [clV]
  · intro j h1 h2
    simp [clV] at h1 h2 ⊢
    rw [h j h1]
def fl (c i : Nat) : Nat := if (97 ≤ i ∧ i < c) ∨ (65 ≤ i ∧ i + 32 < c) then 2 else if i = 95 then 2 else if i = 10 ∨ i = 32 then 1 else 0
def fd (c i : Nat) : Nat := if 48 ≤ i ∧ i < c then 3 else fl 123 i
def zcD : Array Value := clV (fun _ => 0)
theorem zvD (w : World) : (zeroValue 25).run Tryd.prog w = .ok (.agg zcD) w := by kernel_rfl
theorem zsD : zcD.size = 256 := by kernel_rfl
theorem znD : zcD ≠ #[] := by
  intro h
  have := congrArg Array.size h
  rw [zsD] at this
  simp at this
theorem zero59 : zcD = clV (fun _ => 0) := rfl
theorem fl_start : ((zcD.setIfInBounds 32 (.int .u8 1)).setIfInBounds 10 (.int .u8 1)).setIfInBounds 95 (.int .u8 2) = clV (fl 97) := by
  rw [zero59]
  have h1 := clV_set (fun _ => 0) 32 1
  rw [show (((1 : Nat) : Int)) = 1 from rfl] at h1
  rw [h1]
  have h2 := clV_set (fun j => if j = 32 then 1 else 0) 10 1
  rw [show (((1 : Nat) : Int)) = 1 from rfl] at h2
  rw [h2]
  have h3 := clV_set (fun j => if j = 10 then 1 else if j = 32 then 1 else 0) 95 2
  rw [show (((2 : Nat) : Int)) = 2 from rfl] at h3
  rw [h3]
  refine clV_congr fun i hi => ?_
  unfold fl
  repeat' split
  all_goals omega
theorem fl_step (c : Nat) (h : 97 ≤ c) (h2 : c ≤ 122) : ((clV (fl c)).setIfInBounds c (.int .u8 2)).setIfInBounds (c - 97 + 65) (.int .u8 2) = clV (fl (c + 1)) := by
  have h1 := clV_set (fl c) c 2
  rw [show (((2 : Nat) : Int)) = 2 from rfl] at h1
  rw [h1]
  have h2 := clV_set (fun j => if j = c then 2 else fl c j) (c - 97 + 65) 2
  rw [show (((2 : Nat) : Int)) = 2 from rfl] at h2
  rw [h2]
  refine clV_congr fun i hi => ?_
  unfold fl
  repeat' split
  all_goals omega
theorem fd_start : clV (fl 123) = clV (fd 48) := clV_congr fun i hi => by unfold fd; rw [if_neg (by omega)]
theorem fd_step (c : Nat) (h : 48 ≤ c) (h2 : c ≤ 57) : (clV (fd c)).setIfInBounds c (.int .u8 3) = clV (fd (c + 1)) := by
  have h1 := clV_set (fd c) c 3
  rw [show (((3 : Nat) : Int)) = 3 from rfl] at h1
  rw [h1]
  refine clV_congr fun i hi => ?_
  unfold fd
  repeat' split
  all_goals omega
theorem fd_end : clV (fd 58) = clV clsN := clV_congr fun i hi => by
  unfold fd fl clsN
  repeat' split
  all_goals omega
theorem clV_one : (clV clsN).all (·.oneCell') = true := by kernel_rfl
theorem clV_info : (Tryd.prog.info? 25).map (·.size) = some (clV clsN).size := by kernel_rfl
set_option maxRecDepth 100000 in
set_option maxHeartbeats 1000000 in
theorem classes_any (w : World) : Calls Tryd.prog 9 #[] w fun e w' => e = .returned (.agg (clV clsN)) ∧ Q w w' := by
  have FS := hide fl_start
  have hzv := zvD
  have hzs := zsD
  have hzn := znD
  have hq0 : ∀ zc0 : Array Value, zcD = zc0 → True := fun _ _ => trivial
  clear hq0
  obtain ⟨zc, hzc⟩ : ∃ zc, zcD = zc := ⟨_, rfl⟩
  rw [hzc] at FS hzs hzn
  simp only [hzc] at hzv
  clear hzc
  have HZS := hide hzs
  go_enter Tryd.func9, Tryd.ntmps9
  go_wp2_with fail
  rw [FS.out]
  go_loopw [2] (fun v wr => ∃ c : Nat, 97 ≤ c ∧ c ≤ 123 ∧ v = .int .u8 (c : Nat) ∧ wr.heap[w.heap.size + 1]? = some (.cells (clV (fl c)) 25 (0, 0)) ∧ wr.heap[w.heap.size]? = some (.cells zc 25 (0, 0)) ∧ Q w wr) (fun v _ => 123 - (intOf v).toNat)
  case atStart => exact ⟨97, by omega, by omega, by go_num, heap_alloc2_new _ _ _, heap_alloc2_old _ _ _, ((Q.refl w).alloc _).alloc _⟩
  case round =>
    obtain ⟨c, hc1, hc2, rfl, hg, hg0, hq⟩ := hrel
    by_cases hlt : c ≤ 122
    · have hci : (c : Int) ≤ 122 := by omega
      have hci2 : (97 : Int) ≤ (c : Int) := by omega
      have hcd : decide ((c : Int) ≤ 122) = true := by simp; omega
      have k1 : wr.cell? ⟨w.heap.size + 1, c, none⟩ = some (.int .u8 (fl c c : Nat)) := by rw [cell_of_row _ _ _ _ _ _ hg]; exact clV_get _ _ (by omega)
      have k2 : wr.frozen? ⟨w.heap.size + 1, c, none⟩ = false := frozen_of_row _ _ _ _ _ hg
      have hg2 := heap_setCell_same wr (w.heap.size + 1) c _ _ (.int .u8 2) hg
      have hg3 := heap_setCell_same _ (w.heap.size + 1) (c - 97 + 65) _ _ (.int .u8 2) hg2
      rw [fl_step c hc1 hlt] at hg3
      have k3 : (wr.setCell ⟨w.heap.size + 1, c, none⟩ (.int .u8 2)).cell? ⟨w.heap.size + 1, c - 97 + 65, none⟩ = some (.int .u8 (fl c (c - 97 + 65) : Nat)) := by
        rw [cell_of_row _ _ _ _ _ _ hg2, Array.getElem?_setIfInBounds_ne (by omega)]
        exact clV_get _ _ (by omega)
      have k4 : wr.frozen? ⟨w.heap.size + 1, c - 97 + 65, none⟩ = false := frozen_of_row _ _ _ _ _ hg
      have hg4 : ((wr.setCell ⟨w.heap.size + 1, c, none⟩ (.int .u8 2)).setCell ⟨w.heap.size + 1, c - 97 + 65, none⟩ (.int .u8 2)).heap[w.heap.size]? = some (.cells zc 25 (0, 0)) := by
        rw [heap_setCell_other _ _ _ _ (by simp), heap_setCell_other _ _ _ _ (by simp)]
        exact hg0
      have hq2 := (hq.set (p := ⟨w.heap.size + 1, c, none⟩) (by simp) (.int .u8 2)).set (p := ⟨w.heap.size + 1, c - 97 + 65, none⟩) (by simp) (.int .u8 2)
      have HG3 := hide hg3
      have HG4 := hide hg4
      have HQ2 := hide hq2
      clear hg hg0 hg2 hg3 hg4 hq2 hq
      go_wp2_with fail
      go_roundw
      case rel => exact ⟨c + 1, by omega, by omega, by go_num, HG3.out, HG4.out, HQ2.out⟩
      case measure => simp [intOf] <;> omega
    · have ec : c = 123 := by omega
      subst ec
      rw [fd_start] at hg
      have hcd : decide (((123 : Nat) : Int) ≤ 122) = false := by simp
      have HG := hide hg
      have HG0 := hide hg0
      clear hg hg0
      go_wp2_with fail
      go_loopw [3] (fun v wr => ∃ c : Nat, 48 ≤ c ∧ c ≤ 58 ∧ v = .int .u8 (c : Nat) ∧ wr.heap[w.heap.size + 1]? = some (.cells (clV (fd c)) 25 (0, 0)) ∧ wr.heap[w.heap.size]? = some (.cells zc 25 (0, 0)) ∧ Q w wr) (fun v _ => 58 - (intOf v).toNat)
      case atStart => exact ⟨48, by omega, by omega, by go_num, HG.out, HG0.out, hq⟩
      case round =>
        obtain ⟨c, hc1, hc2, rfl, hg, hg0, hq⟩ := hrel
        by_cases hlt : c ≤ 57
        · have hci : (c : Int) ≤ 57 := by omega
          have hci2 : (48 : Int) ≤ (c : Int) := by omega
          have hcd : decide ((c : Int) ≤ 57) = true := by simp; omega
          have k1 : wr.cell? ⟨w.heap.size + 1, c, none⟩ = some (.int .u8 (fd c c : Nat)) := by rw [cell_of_row _ _ _ _ _ _ hg]; exact clV_get _ _ (by omega)
          have k2 : wr.frozen? ⟨w.heap.size + 1, c, none⟩ = false := frozen_of_row _ _ _ _ _ hg
          have hg2 := heap_setCell_same wr (w.heap.size + 1) c _ _ (.int .u8 3) hg
          rw [fd_step c hc1 hlt] at hg2
          have hg4 : (wr.setCell ⟨w.heap.size + 1, c, none⟩ (.int .u8 3)).heap[w.heap.size]? = some (.cells zc 25 (0, 0)) := by
            rw [heap_setCell_other _ _ _ _ (by simp)]
            exact hg0
          have hq2 := hq.set (p := ⟨w.heap.size + 1, c, none⟩) (by simp) (.int .u8 3)
          have HG3 := hide hg2
          have HG4 := hide hg4
          have HQ2 := hide hq2
          clear hg hg0 hg2 hg4 hq2 hq
          go_wp2_with fail
          go_roundw
          case rel => exact ⟨c + 1, by omega, by omega, by go_num, HG3.out, HG4.out, HQ2.out⟩
          case measure => simp [intOf] <;> omega
        · have ec : c = 58 := by omega
          subst ec
          rw [fd_end] at hg
          have hcd : decide (((58 : Nat) : Int) ≤ 57) = false := by simp
          have HG := hide hg
          have HG0 := hide hg0
          clear hg hg0
          have hsz : zc.size = (clV clsN).size := by rw [HZS.out]; simp [clV]
          have HSZ := hide hsz
          clear hsz
          iterate 22 (first | go_values | go_skip | go_guarded | go_step | go_upon | go_back)
          refine wp_load_row 25 (.tmp 1) rfl (w.heap.size + 1) rfl 25 (clV clsN) (0, 0) (.array 256 24) HG.out Tryd.underlying25 rfl clV_info ?_
          iterate 2 (first | go_values | go_skip | go_guarded | go_step | go_upon | go_back)
          refine wp_store_row 25 (.tmp 0) (.tmp 23) rfl w.heap.size (clV clsN) rfl rfl 25 zc HG0.out clV_info HSZ.out clV_one ?_
          go_wp2_with fail
          refine bodyPost_ret (v := .agg (clV clsN)) (results_cell_row (g := w.heap.size) rfl _ _ 25 (clV clsN) (0, 0) _ rfl (setRow_heap _ _ _ _ _ _ HG0.out) Tryd.underlying25 rfl clV_info) rfl ⟨rfl, ?_⟩
          exact Q.setRow hq (Nat.le_refl _) _
end Go.Proofs.YtofigpjabamnhaaDoor
