/- The walk of 'known'. Conditions: none. -/
import Derived.Test.YtjdioilkhbpmoaaLinkIc
import Derived.Test.YtjdioilkhbpmoaaLinkL
import Derived.Deep.RegionWith
import Derived.Deep.DeepCutAuto
import Derived.BigRegion
namespace Go.Proofs.Ytjdioilkhbpmoaa
open Go.RowKit LK
set_option linter.unusedVariables false
theorem mk_u8 (n : Nat) (hn : n ≤ 1000) : ∃ M : Array Value, M.toList = List.replicate n (.int .u8 0) ∧ ∀ W : World, (Instr.makeSlice 37 (.int .i64 (n : Int)) (.int .i64 (n : Int))).run Try.prog W = .ok (.slice (some ⟨W.heap.size, 0, none⟩) n n) (W.alloc (.cells M 5)) := by
  obtain ⟨i, hi, hz, hsz, hby⟩ := info_parts (show (Try.prog.info? 5).map (fun i => (i.zero, i.size, i.bytes)) = some (some (.int .u8 0), 1, 1) by kernel_rfl)
  refine ⟨madeCells (Value.int .u8 0).cells ((n : Int).toNat * i.size), ?_, fun W => ?_⟩
  · rw [hsz, Nat.mul_one, Int.toNat_natCast]
    exact toList_madeCells_one _ _
  · have h := run_makeSlice (P := Try.prog) W 37 5 i (.int .u8 0) Try.underlying37 hi hz .i64 .i64 (n : Int) n (by omega) (by omega) (by rw [hsz]; omega) (by rw [hby]; omega) (by omega)
    simpa using h
theorem blk3 (w : World) (a b c : Array Value) (ta tb tc : TypeId) :
    ((((w.alloc (.cells a ta)).alloc (.cells b tb)).alloc (.cells c tc)).drew).heap[w.heap.size]? = some (.cells a ta (0, 0)) ∧
    ((((w.alloc (.cells a ta)).alloc (.cells b tb)).alloc (.cells c tc)).drew).heap[w.heap.size + 1]? = some (.cells b tb (0, 0)) ∧
    ((((w.alloc (.cells a ta)).alloc (.cells b tb)).alloc (.cells c tc)).drew).heap[w.heap.size + 1 + 1]? = some (.cells c tc (0, 0)) := by
  have s1 : (w.alloc (.cells a ta)).heap.size = w.heap.size + 1 := by simp
  have s2 : ((w.alloc (.cells a ta)).alloc (.cells b tb)).heap.size = w.heap.size + 1 + 1 := by simp
  refine ⟨?_, ?_, ?_⟩
  · exact (heap_alloc_old _ _ (by omega)).trans ((heap_alloc_old _ _ (by omega)).trans (heap_alloc_new w _))
  · refine (heap_alloc_old _ _ (by omega)).trans ?_
    rw [← s1]
    exact heap_alloc_new _ _
  · rw [← s2]
    exact heap_alloc_new _ _
theorem rd_blk {w : World} {g : Nat} {xs : List Value} {ty : TypeId} {M : Array Value} (h : w.heap[g]? = some (.cells M ty (0, 0))) (hM : M.toList = xs) : Rd w w.heap.size (some ⟨g, 0, none⟩) xs := by
  refine .inr ⟨g, 0, rfl, (Array.getElem?_eq_some_iff.1 h).1, fun j u hu => ?_⟩
  rw [Nat.zero_add]
  refine cell_blkJ h ?_
  rw [← hM, Array.getElem?_toList] at hu
  exact hu
theorem ObR.raw {w : World} {g n : Nat} {bs : List Int} {ty : TypeId} {M : Array Value} (h : w.heap[g]? = some (.cells M ty (0, 0))) (hM : M.toList = bs.map (Value.int .u8)) (hn : bs.length = n) (hb : ∀ x ∈ bs, 0 ≤ x ∧ x < 256) (hs : n ≤ 1000) : ObR w (⟨some ⟨g, 0, none⟩, n, n, bs⟩, ⟨none, 0, 0, []⟩, ⟨none, 0, 0, []⟩) := by
  refine ⟨⟨?_, hn, Nat.le_refl _, (by dsimp only; omega)⟩, Sl.nil _, Sl.nil _, fun e => (by cases e), fun _ => ⟨rfl, rfl⟩, fun _ => ⟨rfl, rfl⟩, hb, fun x hx => (by cases hx), fun x hx => (by cases hx)⟩
  dsimp only
  rw [enc8_flat]
  exact rd_blk h hM
def two (gA gB : Nat) : List OV := [(⟨some ⟨gA, 0, none⟩, 8, 8, List.replicate 8 0⟩, ⟨none, 0, 0, []⟩, ⟨none, 0, 0, []⟩), (⟨some ⟨gB, 0, none⟩, 9, 9, List.replicate 9 0⟩, ⟨none, 0, 0, []⟩, ⟨none, 0, 0, []⟩)]
theorem obs_two {w : World} {g gA gB : Nat} {M8 M9 : Array Value} (h8 : M8.toList = List.replicate 8 (.int .u8 0)) (h9 : M9.toList = List.replicate 9 (.int .u8 0))
    (hg : w.heap[g]? = some (.cells #[.slice (some ⟨gA, 0, none⟩) 8 8, .slice none 0 0, .slice none 0 0, .slice (some ⟨gB, 0, none⟩) 9 9, .slice none 0 0, .slice none 0 0] 41 (0, 0)))
    (hA : w.heap[gA]? = some (.cells M8 5 (0, 0))) (hB : w.heap[gB]? = some (.cells M9 5 (0, 0))) : ObsR w (some ⟨g, 0, none⟩) 2 2 (two gA gB) := by
  refine ⟨⟨rd_blk hg rfl, rfl, Nat.le_refl _, by decide⟩, fun e => (by cases e), fun o ho => ?_⟩
  unfold two at ho
  simp only [List.mem_cons, List.not_mem_nil, or_false] at ho
  rcases ho with rfl | rfl
  · exact ObR.raw hA (by rw [h8]; rfl) rfl (by decide) (by decide)
  · exact ObR.raw hB (by rw [h9]; rfl) rfl (by decide) (by decide)
theorem two_listed (gA gB : Nat) : listedO (two gA gB) = 0 := rfl
theorem two_starts (gA gB : Nat) : startsR (two gA gB) = [0, 16, 48] := by
  unfold startsR
  rw [two_listed]
  simp [startsL, offF, two, room, List.range, List.range.loop]
theorem starts_two {w : World} {g gA gB : Nat} {M8 M9 : Array Value} (h8 : M8.toList = List.replicate 8 (.int .u8 0)) (h9 : M9.toList = List.replicate 9 (.int .u8 0))
    (hg : w.heap[g]? = some (.cells #[.slice (some ⟨gA, 0, none⟩) 8 8, .slice none 0 0, .slice none 0 0, .slice (some ⟨gB, 0, none⟩) 9 9, .slice none 0 0, .slice none 0 0] 41 (0, 0)))
    (hA : w.heap[gA]? = some (.cells M8 5 (0, 0))) (hB : w.heap[gB]? = some (.cells M9 5 (0, 0))) :
    Calls Try.prog 12 #[.slice (some ⟨g, 0, none⟩) 2 2] w fun e w' => ∃ A c, e = .returned (.tuple #[.slice A 3 c, .int .i64 0]) ∧ Sl 1 (encI .i64) w' A 3 c [0, 16, 48] ∧ Q w w' := by
  refine (Starts_any _ 2 2 _ _ (obs_two h8 h9 hg hA hB)).mono ?_
  rintro e w5 ⟨v, rfl, hown, hq⟩
  rw [two_listed, two_starts] at *
  obtain ⟨A, c, rfl, hc1, hc2, hc3, hrd⟩ := own_form hown
  exact ⟨A, c, rfl, ⟨hrd, rfl, hc1, by unfold maxLen at hc2; omega⟩, hq⟩
theorem one_any (A0 A1 A2 : Option Addr) (n0 c0 n1 c1 n2 c2 : Nat) (w : World) : Calls Try.prog 21 #[.agg #[.slice A0 n0 c0, .slice A1 n1 c1, .slice A2 n2 c2]] w fun e w' => ∃ g, e = .returned (.slice (some ⟨g, 0, none⟩) 1 1) ∧ w'.heap[g]? = some (.cells #[.slice A0 n0 c0, .slice A1 n1 c1, .slice A2 n2 c2] 41 (0, 0)) ∧ w.heap.size ≤ g ∧ Q w w' := by
  obtain ⟨w1, hw1⟩ : ∃ w1, w.alloc (.cells #[.slice A0 n0 c0, .slice A1 n1 c1, .slice A2 n2 c2] 41) = w1 := ⟨_, rfl⟩
  have hq1 : Q w w1 := by rw [← hw1]; exact (Q.refl w).alloc _
  have hb1 : w1.heap[w.heap.size]? = some (.cells #[.slice A0 n0 c0, .slice A1 n1 c1, .slice A2 n2 c2] 41 (0, 0)) := by rw [← hw1]; exact heap_alloc_new w _
  have k0 : w1.cell? ⟨w.heap.size, 0, none⟩ = some (.slice A0 n0 c0) := cell_blkJ (j := 0) hb1 rfl
  have k1 : w1.cell? ⟨w.heap.size, 1, none⟩ = some (.slice A1 n1 c1) := cell_blkJ (j := 1) hb1 rfl
  have k2 : w1.cell? ⟨w.heap.size, 2, none⟩ = some (.slice A2 n2 c2) := cell_blkJ (j := 2) hb1 rfl
  have HW1 := hide hw1
  have HQ1 := hide hq1
  have HG := hide (show (w1.alloc (.cells #[.slice A0 n0 c0, .slice A1 n1 c1, .slice A2 n2 c2] 41)).heap[w.heap.size + 1]? = some (.cells #[.slice A0 n0 c0, .slice A1 n1 c1, .slice A2 n2 c2] 41 (0, 0)) by
    have h := heap_alloc_new w1 (.cells #[.slice A0 n0 c0, .slice A1 n1 c1, .slice A2 n2 c2] 41)
    rw [← hw1] at h ⊢
    simpa using h)
  clear hw1 hq1 hb1
  go_enter Try.func21, Try.ntmps21
  go_wp2_with fail
  rw [HW1.out]
  go_wp2_with fail
  go_ret
  exact ⟨_, rfl, HG.out, by omega, HQ1.out.alloc _⟩
def nmA : ByteArray := ⟨#[97]⟩
def oK (b : Nat) : OV := (⟨some ⟨b, 0, none⟩, 5, 5, [1, 2, 3, 4, 5]⟩, ⟨some ⟨b + 1, 0, none⟩, 1, 1, [(nmA, 1)]⟩, ⟨some ⟨b + 1 + 1, 0, none⟩, 1, 1, [(1, 1, nmA)]⟩)
theorem oK_listed (b : Nat) : listedO [oK b] = 0 := by
  rfl
theorem oK_img (b : Nat) : imgR [oK b] = some ((List.map byteV (1 :: List.replicate 15 0))) := by
  have hl : lookS (tabF 0 0 [oK b]) nmA = some (0, 1) := by simp [lookS, tabF, oK]
  unfold imgR imgF imgStep
  show (match wantsL (tabF 0 0 [oK b]) ((0 : Nat) : Int) [(1, 1, nmA)] _ with | none => none | some L' => imgF _ _ [] L') = _
  unfold wantsL
  rw [hl]
  kernel_rfl
theorem obs_one {w : World} {g b : Nat} (hg : w.heap[g]? = some (.cells #[.slice (some ⟨b, 0, none⟩) 5 5, .slice (some ⟨b + 1, 0, none⟩) 1 1, .slice (some ⟨b + 1 + 1, 0, none⟩) 1 1] 41 (0, 0)))
    (h0 : w.heap[b]? = some (.cells #[.int .u8 1, .int .u8 2, .int .u8 3, .int .u8 4, .int .u8 5] 5 (0, 0))) (h1 : w.heap[b + 1]? = some (.cells #[.string nmA, .int .i64 1] 72 (0, 0)))
    (h2 : w.heap[b + 1 + 1]? = some (.cells #[.int .i64 1, .int .i64 1, .string nmA] 74 (0, 0))) : ObsR w (some ⟨g, 0, none⟩) 1 1 [oK b] := by
  refine ⟨⟨rd_blk hg rfl, rfl, Nat.le_refl _, by decide⟩, fun e => (by cases e), fun o ho => ?_⟩
  simp only [List.mem_cons, List.not_mem_nil, or_false] at ho
  subst ho
  refine ⟨⟨rd_blk h0 rfl, rfl, Nat.le_refl _, (show (5 : Nat) ≤ 9223372036854775807 by decide)⟩, ⟨rd_blk h1 rfl, rfl, Nat.le_refl _, (show (1 : Nat) ≤ 9223372036854775807 by decide)⟩, ⟨rd_blk h2 rfl, rfl, Nat.le_refl _, (show (1 : Nat) ≤ 9223372036854775807 by decide)⟩, fun e => (by cases e), fun e => (by cases e), fun e => (by cases e), (show ∀ x ∈ ([1, 2, 3, 4, 5] : List Int), 0 ≤ x ∧ x < 256 by decide), ?_, ?_⟩
  · intro x hx
    cases hx with
    | head => decide
    | tail _ h => cases h
  · intro x hx
    cases hx with
    | head => decide
    | tail _ h => cases h
theorem image_one {w : World} {g b : Nat} (hg : w.heap[g]? = some (.cells #[.slice (some ⟨b, 0, none⟩) 5 5, .slice (some ⟨b + 1, 0, none⟩) 1 1, .slice (some ⟨b + 1 + 1, 0, none⟩) 1 1] 41 (0, 0)))
    (h0 : w.heap[b]? = some (.cells #[.int .u8 1, .int .u8 2, .int .u8 3, .int .u8 4, .int .u8 5] 5 (0, 0))) (h1 : w.heap[b + 1]? = some (.cells #[.string nmA, .int .i64 1] 72 (0, 0)))
    (h2 : w.heap[b + 1 + 1]? = some (.cells #[.int .i64 1, .int .i64 1, .string nmA] 74 (0, 0))) :
    Calls Try.prog 30 #[.slice (some ⟨g, 0, none⟩) 1 1] w fun e w' => ∃ A c, e = .returned (.tuple #[.slice A 16 c, .int .i64 0]) ∧ Rd w' w'.heap.size A (List.map byteV (1 :: List.replicate 15 0)) ∧ Q w w' := by
  refine (Image_any _ 1 1 _ _ (obs_one hg h0 h1 h2)).mono ?_
  rintro e w5 ⟨hq, h | ⟨-, h | ⟨L, v, N, hL, rfl, hown⟩⟩⟩
  · exact absurd (oK_listed b) h.1
  · rw [oK_img] at h
    cases h.1
  · rw [oK_img] at hL
    cases hL
    obtain ⟨A, c, rfl, hc1, hc2, hc3, hrd⟩ := own_form hown
    rw [Nat.mul_one] at hc3
    obtain rfl : N = 16 := hc3.symm
    exact ⟨A, c, rfl, hrd, hq⟩
set_option maxRecDepth 100000 in
set_option maxHeartbeats 4000000 in
theorem known_any (w : World) : Calls Try.prog 11 #[] w fun e w' => e = .returned (.bool true) ∧ Q w w' := by
  obtain ⟨M8, hM8, hmk8⟩ := mk_u8 8 (by decide)
  obtain ⟨M9, hM9, hmk9⟩ := mk_u8 9 (by decide)
  have hmk8 : ∀ W : World, (Instr.makeSlice 37 (.int .i64 8) (.int .i64 8)).run Try.prog W = .ok (.slice (some ⟨W.heap.size, 0, none⟩) 8 8) (W.alloc (.cells M8 5)) := hmk8
  have hmk9 : ∀ W : World, (Instr.makeSlice 37 (.int .i64 9) (.int .i64 9)).run Try.prog W = .ok (.slice (some ⟨W.heap.size, 0, none⟩) 9 9) (W.alloc (.cells M9 5)) := hmk9
  have HM8 := hide hM8
  have HM9 := hide hM9
  clear hM8 hM9
  go_enter Try.func11, Try.ntmps11
  go_upto_region 1 with fail
  go_cut [1, 2] (fun va vb wx => vb = .int .i64 0 ∧ ∃ A c, va = .slice A 3 c ∧ Sl 1 (encI .i64) wx A 3 c [0, 16, 48] ∧ Q w wx)
  case first =>
    have S1 := hide (starts_two HM8.out HM9.out (blk3 w M8 M9 _ 5 5 _).2.2 (blk3 w M8 M9 _ 5 5 _).1 (blk3 w M8 M9 _ 5 5 _).2.1)
    have S2 := hide (starts_two HM8.out HM9.out (blk3 w M9 M8 _ 5 5 _).2.2 (blk3 w M9 M8 _ 5 5 _).2.1 (blk3 w M9 M8 _ 5 5 _).1)
    go_region_with (go_at_call 12; first | (refine S1.out.mono ?_; rintro e w5 ⟨A, c, rfl, hsl, hq⟩) | (refine S2.out.mono ?_; rintro e w5 ⟨A, c, rfl, hsl, hq⟩))
    all_goals (go_wp2_with fail; go_meet; exact ⟨rfl, _, _, rfl, hsl, ((((Q.refl w).alloc _).alloc _).alloc _).drew.trans hq⟩)
  case rest =>
  obtain ⟨rfl, A, c, rfl, hsl, hq⟩ := hcut
  have HSL := hide hsl
  have HQ := hide hq
  clear hsl hq
  obtain ⟨w4, hw4⟩ : ∃ w4, (((wc.alloc (.cells #[.int .u8 1, .int .u8 2, .int .u8 3, .int .u8 4, .int .u8 5] 5)).alloc (.cells #[.string nmA, .int .i64 1] 72)).alloc (.cells #[.int .i64 1, .int .i64 1, .string nmA] 74)).alloc
    (.cells #[.slice (some ⟨wc.heap.size, 0, none⟩) 5 5, .slice (some ⟨wc.heap.size + 1, 0, none⟩) 1 1, .slice (some ⟨wc.heap.size + 1 + 1, 0, none⟩) 1 1] 41) = w4 := ⟨_, rfl⟩
  have hq4 : Q wc w4 := by rw [← hw4]; exact ((((Q.refl wc).alloc _).alloc _).alloc _).alloc _
  have hb3 := blk3 wc #[.int .u8 1, .int .u8 2, .int .u8 3, .int .u8 4, .int .u8 5] #[.string nmA, .int .i64 1] #[.int .i64 1, .int .i64 1, .string nmA] 5 72 74
  have k0 : w4.heap[wc.heap.size]? = some (.cells #[.int .u8 1, .int .u8 2, .int .u8 3, .int .u8 4, .int .u8 5] 5 (0, 0)) := by rw [← hw4]; exact (heap_alloc_old _ _ (Array.getElem?_eq_some_iff.1 hb3.1).1).trans hb3.1
  have k1 : w4.heap[wc.heap.size + 1]? = some (.cells #[.string nmA, .int .i64 1] 72 (0, 0)) := by rw [← hw4]; exact (heap_alloc_old _ _ (Array.getElem?_eq_some_iff.1 hb3.2.1).1).trans hb3.2.1
  have k2 : w4.heap[wc.heap.size + 1 + 1]? = some (.cells #[.int .i64 1, .int .i64 1, .string nmA] 74 (0, 0)) := by rw [← hw4]; exact (heap_alloc_old _ _ (Array.getElem?_eq_some_iff.1 hb3.2.2).1).trans hb3.2.2
  have K0 := hide k0
  have K1 := hide k1
  have K2 := hide k2
  have HQ4 := hide hq4
  have HW4 := hide hw4
  clear hb3 k0 k1 k2 hq4 hw4
  go_wp2_with fail
  rw [show (⟨#[97]⟩ : ByteArray) = nmA from rfl, HW4.out]
  refine (one_any _ _ _ _ _ _ _ _ _ w4).mono ?_
  rintro e w5 ⟨g, rfl, hg, hge, hq5⟩
  have HI := hide (image_one hg ((hq5.below.block _ (Array.getElem?_eq_some_iff.1 K0.out).1).trans K0.out) ((hq5.below.block _ (Array.getElem?_eq_some_iff.1 K1.out).1).trans K1.out) ((hq5.below.block _ (Array.getElem?_eq_some_iff.1 K2.out).1).trans K2.out))
  have HQ5 := hide hq5
  clear hg hq5
  go_wp2_with fail
  refine HI.out.mono ?_
  rintro e w6 ⟨A6, c6, rfl, hrd, hq6⟩
  have hcv := conv_rd Try.underlying37 Try.underlying5 Try.underlying9 hrd (by decide) 16 c6 rfl
  have HCV := hide hcv
  have HRD := hide hrd
  have HQ6 := hide hq6
  clear hcv hrd hq6
  go_wp2_with fail
  refine (SameInts_same A 3 c (some ⟨w6.heap.size, 0, none⟩) 3 [0, 16, 48] _ (HSL.out.up (HQ4.out.trans (HQ5.out.trans (HQ6.out.alloc _)))) ⟨rd_blk (heap_alloc_new w6 _) rfl, rfl, Nat.le_refl _, by decide⟩ (by decide)).mono ?_
  rintro e w7 ⟨rfl, hq7⟩
  have hcv7 := conv_rd Try.underlying37 Try.underlying5 Try.underlying9 (HRD.out.up (((Q.refl w6).alloc _).trans hq7)) (by decide) 16 c6 rfl
  have e16 : strN (1 :: List.replicate 15 0) = ⟨#[1, 0, 0, 0, 0, 0, 0, 0, 0, 0, 0, 0, 0, 0, 0, 0]⟩ := rfl
  rw [e16] at hcv7
  clear e16
  have HQ7 := hide hq7
  clear hq7
  go_wp2_with fail
  go_ret
  exact ⟨rfl, HQ.out.trans (HQ4.out.trans (HQ5.out.trans ((HQ6.out.alloc _).trans HQ7.out)))⟩
end Go.Proofs.Ytjdioilkhbpmoaa
