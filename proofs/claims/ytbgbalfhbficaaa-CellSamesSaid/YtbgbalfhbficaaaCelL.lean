/- slices.Repeat of one number. Conditions: the count is within bounds. -/
import Derived.Test.YtbgbalfhbficaaaCelSh
import Derived.Test.YtbgbalfhbficaaaCelK
import Derived.Test.YtbgbalfhbficaaaCp
namespace Go.Proofs.Ytbgbalfhbficaaa
open Go.RowKit
set_option linter.unusedVariables false
set_option linter.unusedSimpArgs false
theorem blk_lt {w : World} {g : Nat} {o : Obj} (h : w.heap[g]? = some o) : g < w.heap.size := (Array.getElem?_eq_some_iff.1 h).1
theorem El_int : El Try.prog 32 3 1 8 := El.of (z := .int .i64 0) Try.underlying32 (by kernel_rfl) rfl (by decide) (by decide)
/-- a row of the call's own, known whole -/
theorem own_whole {w : World} {B e : Nat} {g n k : Nat} {xs : List Value} (h : w.ownsRow B e k (.slice (some ⟨g, 0, none⟩) n n) n xs) : w.heap[g]? = some (.cells xs.toArray e (0, 0)) := by
  rcases h.2 with ⟨h1, _⟩ | ⟨g', cap, cur, h1, _, hh, _, _, hs, ht⟩
  · cases h1
  · cases h1
    rw [hh]
    congr 2
    rw [← ht, List.take_of_length_le (by rw [Array.length_toList, hs]; exact Nat.le_refl _)]
theorem own_of_whole {w : World} {B e g n k : Nat} {xs : List Value} (h : w.heap[g]? = some (.cells xs.toArray e (0, 0))) (hB : B ≤ g) (hl : xs.length = n * k) (hm : n ≤ maxLen) : w.ownsRow B e k (.slice (some ⟨g, 0, none⟩) n n) n xs :=
  ⟨hl, .inr ⟨g, n, xs.toArray, rfl, hB, h, Nat.le_refl _, hm, by simpa using hl, by rw [← hl]; simp⟩⟩
theorem splice_rep (k m n : Nat) (u z : Value) (h : k + m ≤ n) : splice (List.replicate k u ++ List.replicate (n - k) z) k (List.replicate m u) = List.replicate (k + m) u ++ List.replicate (n - (k + m)) z := by
  unfold splice
  rw [List.length_replicate, List.take_left' (by simp), List.drop_append, List.length_replicate, List.drop_of_length_le (by simp), List.nil_append, List.drop_replicate, ← List.append_assoc, List.replicate_append_replicate]
  congr 2
  omega
theorem rep_src (W : World) (g0 m0 : Nat) (u : Value) (hm : m0 ≤ 1) (h : W.cell? ⟨g0, 0, none⟩ = some u) : ∀ j v, (List.replicate m0 u)[j]? = some v → W.cell? ((⟨g0, 0, none⟩ : Addr).add j) = some v := fun j v hv => by
  have hj := (List.getElem?_eq_some_iff.1 hv).1
  rw [List.length_replicate] at hj
  obtain rfl : j = 0 := by omega
  rw [List.getElem?_replicate, if_pos hj] at hv
  rw [addr_add, ← hv]
  exact h
theorem one_rep (m : Nat) (x : Int) : ∀ v ∈ List.replicate m (Value.int .i64 x), v.oneCell' = true := fun v hv => by
  rw [(List.mem_replicate.1 hv).2]
  simp [Value.oneCell']
def RepPost (n : Nat) (u : Value) (w : World) (e : Ending) (w' : World) : Prop :=
  ∃ g, e = .returned (.slice (some ⟨g, 0, none⟩) n n) ∧ w'.ownsRow w.heap.size 3 1 (.slice (some ⟨g, 0, none⟩) n n) n (List.replicate n u) ∧ Q w w'
set_option maxHeartbeats 2000000 in
set_option maxRecDepth 100000 in
theorem repeat_any (n g0 : Nat) (x : Int) (w : World) (hn : n ≤ 100000) (hg0 : g0 < w.heap.size) (hc0 : w.cell? ⟨g0, 0, none⟩ = some (.int .i64 x)) :
    Calls Try.prog 56 #[.slice (some ⟨g0, 0, none⟩) 1 1, .int .i64 (n : Int)] w (RepPost n (.int .i64 x) w) := by
  have hni : (n : Int) ≤ 100000 := by omega
  have HM : Hid (∀ W, Calls Try.prog 85 #[.int .u64 1, .int .u64 (n : Int)] W fun e w' => e = .returned (.tuple #[.int .u64 0, .int .u64 (n : Int)]) ∧ W = w') := fun W => by
    refine (Try.bits_Mul 1 n (by omega) (by omega) W).mono ?_
    rintro e w' ⟨rfl, rfl⟩
    refine ⟨?_, rfl⟩
    rw [Nat.one_mul, Nat.div_eq_of_lt (by omega), Nat.mod_eq_of_lt (by omega)]
    rfl
  have hb1 : decide ((n : Int) < 0) = false := by simp
  have hb2 : decide ((9223372036854775807 : Int) < (n : Int)) = false := by simp; omega
  obtain ⟨m0, hm0⟩ : ∃ m0, m0 = Nat.min 1 n := ⟨_, rfl⟩
  have hm1 : m0 ≤ n := by rw [hm0]; exact Nat.min_le_right _ _
  have hm2 : m0 ≤ 1 := by rw [hm0]; exact Nat.min_le_left _ _
  have hm3 : 0 < n → m0 = 1 := fun h => by rw [hm0]; exact Nat.min_eq_left h
  have HM0 := hide hm0
  have HM3 := hide hm3
  clear hm0 hm3
  go_enter Try.func56, Try.ntmps56
  go_wp2_with (first | (go_at_call 85; refine (HM.out _).mono ?_; rintro e w1 ⟨rfl, rfl⟩) | (at_make; refine wpList_mk rfl _ _ rfl Try.underlying32 (show (Try.prog.info? 3).map (fun i => (i.zero, i.size, i.bytes)) = some (some (.int .i64 0), 1, 8) by kernel_rfl) rfl w.heap.size (n := n) rfl rfl rfl rfl ?_ ?_ ?_ ?_; (focus omega); (focus omega); (focus exact Nat.le_refl _); intro w3 hown3 hq3 hlt3; have HW3 := hide (own_whole hown3); have HQ3 := hide hq3; have hsrc := hide (rep_src w3 g0 m0 _ hm2 ((hq3.facts.1 g0 0 hg0).trans hc0)); clear hown3 hq3) | (with_reducible show wpList _ _ _ _ _ _; (refine wpList_copyk rfl (.tmp 31) (.tmp 32) El_int rfl w.heap.size 0 n n 1 1 m0 _ _ rfl rfl (List.replicate n (Value.int .i64 0)) 3 (List.replicate m0 (Value.int .i64 x)) HW3.out HM0.out (by simp) (fun _ => ⟨rfl, _, rfl, hsrc.out⟩) (by simp; omega) (one_rep _ _) ?_); intro w4 HG4 hgr4 hs4; have HGR4 := hide hgr4; clear hgr4))
  go_loopw [8] (fun vi wr => ∃ k : Nat, k ≤ n ∧ (0 < n → 0 < k) ∧ vi = .int .i64 (k : Int) ∧ Hid (wr.heap[w.heap.size]? = some (.cells (List.replicate k (Value.int .i64 x) ++ List.replicate (n - k) (Value.int .i64 0)).toArray 3 (0, 0))) ∧ Q w wr) (fun vi _ => n - (intOf vi).toNat)
  case atStart =>
    refine ⟨m0, hm1, fun h => by rw [HM3.out h]; exact Nat.zero_lt_one, rfl, ?_, ?_⟩
    · refine hide ?_
      rw [HG4.out]
      have := splice_rep 0 m0 n (Value.int .i64 x) (Value.int .i64 0) (by omega)
      simp only [List.replicate_zero, List.nil_append, Nat.sub_zero, Nat.zero_add] at this
      rw [this]
    · exact q_below (B := w.heap.size) HQ3.out ⟨HGR4.out.os, HGR4.out.tape, HGR4.out.output, HGR4.out.size, fun i hi => HGR4.out.block i (by omega) (fun e => by cases e; omega)⟩ (Nat.le_refl _)
  case round =>
    obtain ⟨k, hk, hk0, rfl, HG, hq⟩ := hrel
    have hsz := hq.size
    have hgl := blk_lt HG.out
    have HQ := hide hq
    clear hq
    by_cases hlt : k < n
    · have hd1 : decide ((k : Int) < (n : Int)) = true := by simp; omega
      have hd0 : decide (k < n) = true := by simp; omega
      have hlti : (k : Int) < (n : Int) := by omega
      have hk1 : 0 < k := hk0 (by omega)
      have hkn : ¬ n = k := by omega
      obtain ⟨m, hm⟩ : ∃ m, m = Nat.min k (n - k) := ⟨_, rfl⟩
      have hm1' : m ≤ k := by rw [hm]; exact Nat.min_le_left _ _
      have hm2' : m ≤ n - k := by rw [hm]; exact Nat.min_le_right _ _
      have hm0 : 0 < m := by rw [hm]; exact Nat.lt_min.2 ⟨hk1, by omega⟩
      have HM := hide hm
      clear hm
      have HS : Hid (∀ W : World, W.heap[w.heap.size]? = some (.cells (List.replicate k (Value.int .i64 x) ++ List.replicate (n - k) (Value.int .i64 0)).toArray 3 (0, 0)) → ∀ j v, (List.replicate m (Value.int .i64 x))[j]? = some v → W.cell? ((⟨w.heap.size, 0, none⟩ : Addr).add j) = some v) := fun W hW j v hv => by
        have hj := (List.getElem?_eq_some_iff.1 hv).1
        rw [List.length_replicate] at hj
        rw [List.getElem?_replicate, if_pos hj] at hv
        rw [addr_add, cell_of_row _ _ _ _ _ _ hW, Nat.zero_add, ← hv]
        simp
        rw [List.getElem?_append_left (by simp; omega), List.getElem?_replicate, if_pos (by omega)]
      have hki : (k : Int) ≤ 100000 := by omega
      have hmi : (m : Int) ≤ 100000 := by omega
      have hsum : IntKind.i64.wrap ((k : Int) + (m : Int)) = (k : Int) + (m : Int) := by rw [IntKind.wrap_i64]; omega
      go_wp2_with fail
      go_region_law (refine step_copyk rfl (.tmp 41) (.tmp 44) El_int rfl w.heap.size k (n - k) (n - k) k n m (some ⟨w.heap.size, k, none⟩) (some ⟨w.heap.size, 0, none⟩) (by simp [Act.eval, Act.put]) (by simp [Act.eval, Act.put]) _ 3 (List.replicate m (Value.int .i64 x)) HG.out HM.out (by simp) (fun _ => ⟨rfl, _, rfl, HS.out _ HG.out⟩) (by simp; omega) (one_rep _ _) ?_; intro w6 HG6 hgr6 hs6; have HGR6 := hide hgr6; clear hgr6)
      go_simp
      go_roundw
      case rel =>
        refine ⟨_, _, _, _, _, _, _, _, _, _, _, _, _, _, ?_, rfl⟩
        refine ⟨k + m, by omega, fun _ => by omega, by go_num, ?_, ?_⟩
        · refine hide ?_
          rw [HG6.out, splice_rep k m n _ _ (by omega)]
        · exact q_below (B := w.heap.size) HQ.out ⟨HGR6.out.os, HGR6.out.tape, HGR6.out.output, HGR6.out.size, fun i hi => HGR6.out.block i (by have := HQ.out.size; simp; omega) (fun e => by cases e; omega)⟩ (Nat.le_refl _)
      case measure => simp [intOf] <;> omega
    · have hd1 : decide ((k : Int) < (n : Int)) = false := by simp; omega
      have hd0 : decide (k < n) = false := by simp; omega
      obtain rfl : k = n := by omega
      go_wp2_with fail
      go_ret
      refine ⟨w.heap.size, rfl, ?_, HQ.out⟩
      have := HG.out
      simp only [Nat.sub_self, List.replicate_zero, List.append_nil] at this
      exact own_of_whole this (Nat.le_refl _) (by simp) (by unfold maxLen; omega)
end Go.Proofs.Ytbgbalfhbficaaa
