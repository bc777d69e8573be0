/- Looking among a heap's live blocks: free, used, holder. Conditions: the heap reads so, and its blocks are of its bytes. -/
import Derived.Test.YtegpkcbmgjoicaaHpB
namespace Go.Proofs.Ytegpkcbmgjoicaa
open Go.RowKit HP
set_option linter.unusedVariables false
/-- every block begins and ends within bounds -/
def Near (l : List Bk) : Prop := l.length ≤ 100 ∧ ∀ x ∈ l, 0 ≤ x.pb.1 ∧ x.pb.1 ≤ 10000 ∧ x.pb.2.length ≤ 10000
theorem HpR.open_ {w : World} {h : Hp} (H : HpR w h) : ∃ A c, h.lv = .slice A h.bks.length c ∧ Sl 2 encBk w A h.bks.length c h.bks ∧ w.cell? ⟨h.blk, 5, none⟩ = some (.slice A h.bks.length c) ∧ h.blk < w.heap.size := by
  obtain ⟨A, c, e, h1, h2, h3, hr⟩ := own_form H.live
  refine ⟨A, c, e, ?_, ?_, blk_lt H.cells⟩
  · have := H.live
    rw [e] at this
    exact Sl.own this (fun _ => rfl) (by decide)
  · rw [H.cell 5, ← e]
    rfl
theorem any_pb {l : List Bk} {p : PB → Bool} : l.any (fun x => p x.pb) = (l.map (·.pb)).any p := by rw [List.any_map]; rfl
set_option maxHeartbeats 1000000 in
theorem free_any (h : Hp) (a b but : Int) (w : World) (H : HpR w h) (hN : Near h.bks) :
    Calls Try.prog 98 #[h.bptr, .int .i64 a, .int .i64 b, .int .i64 but] w fun e w' => e = .returned (.bool (freeB h.size (h.bks.map (·.pb)) a b but)) ∧ Q w w' := by
  obtain ⟨A, c, -, hS, k5, hb⟩ := H.open_
  have k4 : w.cell? ⟨h.blk, 4, none⟩ = some (.int .i64 h.size) := by rw [H.cell 4]; rfl
  obtain ⟨hN1, hN2⟩ := hN
  unfold Hp.bptr freeB
  rw [← any_pb]
  obtain ⟨sz, hsz⟩ : ∃ sz, sz = h.size := ⟨_, rfl⟩
  obtain ⟨g, hg⟩ : ∃ g, g = h.blk := ⟨_, rfl⟩
  obtain ⟨l, hl⟩ : ∃ l, l = h.bks := ⟨_, rfl⟩
  obtain ⟨n, hn⟩ : ∃ n, n = h.bks.length := ⟨_, rfl⟩
  rw [← hn] at hS k5 hN1
  rw [← hl] at hS hN2 ⊢
  rw [← hg] at k4 k5 hb ⊢
  rw [← hsz] at k4 ⊢
  have hmf : ∀ (fn : Fn) (first cap : Array Value) (w : World), (Instr.makeFunc fn first cap).run Try.prog w = .ok (.func fn first cap) w := fun _ _ _ _ => rfl
  have H0 : Hid (∀ W, Q w W → ∀ g1 g2 g3, W.cell? ⟨g1, 0, none⟩ = some (.int .i64 but) → W.cell? ⟨g2, 0, none⟩ = some (.int .i64 b) → W.cell? ⟨g3, 0, none⟩ = some (.int .i64 a) → g1 < W.heap.size → g2 < W.heap.size → g3 < W.heap.size →
      Calls Try.prog 99 #[.slice A n c, .func (.func 100) #[] #[.pointer (some ⟨g1, 0, none⟩), .pointer (some ⟨g2, 0, none⟩), .pointer (some ⟨g3, 0, none⟩)]] W fun e w' => e = .returned (.bool (l.any fun x => clash a b but x.pb)) ∧ Q W w') := by
    intro W hq g1 g2 g3 c1 c2 c3 l1 l2 l3
    refine has_free (fun x => clash a b but x.pb) _ _ _ A n c l W (hS.up hq) (by omega) (fun x hx W' hq' => ?_)
    obtain ⟨h1, h2, h3⟩ := hN2 x hx
    have hs := hq'.size
    exact freeC x.pb _ _ _ g1 g2 g3 a b but W' rfl h1 (by omega) (by omega) ((hq'.facts.1 g1 0 l1).trans c1) ((hq'.facts.1 g2 0 l2).trans c2) ((hq'.facts.1 g3 0 l3).trans c3) (by omega) (by omega) (by omega)
  obtain ⟨w1, hw1⟩ : ∃ w1, ((w.alloc (.cells #[.int .i64 a] 3)).alloc (.cells #[.int .i64 b] 3)).alloc (.cells #[.int .i64 but] 3) = w1 := ⟨_, rfl⟩
  have hq1 : Q w w1 := by rw [← hw1]; exact ((Q.refl w).alloc _).alloc _ |>.alloc _
  have c5 : w1.cell? ⟨w.heap.size, 0, none⟩ = some (.int .i64 a) := by rw [← hw1, cell_old _ _ _ (by first | (simp; done) | (simp; omega)), cell_old _ _ _ (by first | (simp; done) | (simp; omega)), cell_new]; rfl
  have c6 : w1.cell? ⟨w.heap.size + 1, 0, none⟩ = some (.int .i64 b) := by rw [← hw1, cell_old _ _ _ (by first | (simp; done) | (simp; omega)), show w.heap.size + 1 = (w.alloc (.cells #[.int .i64 a] 3)).heap.size by simp, cell_new]; rfl
  have c7 : w1.cell? ⟨w.heap.size + 1 + 1, 0, none⟩ = some (.int .i64 but) := by rw [← hw1, show w.heap.size + 1 + 1 = ((w.alloc (.cells #[.int .i64 a] 3)).alloc (.cells #[.int .i64 b] 3)).heap.size by simp, cell_new]; rfl
  have k4' := (hq1.facts.1 g 4 hb).trans k4
  have k5' := (hq1.facts.1 g 5 hb).trans k5
  have hs0 : w.heap.size < w1.heap.size := by rw [← hw1]; simp; omega
  have hs1 : w.heap.size + 1 < w1.heap.size := by rw [← hw1]; simp
  have hs2 : w.heap.size + 1 + 1 < w1.heap.size := by rw [← hw1]; simp
  have hb1 : g < w1.heap.size := by omega
  have HW1 := hide hw1
  clear hS hN2 hsz hg hl hn H hw1 k4 k5
  cases h1 : decide (sz < b)
  · go_enter Try.func98, Try.ntmps98
    go_wp2_with fail
    rw [HW1.out]
    have hxc := ext_cell
    refine wp_region_ext (by kernel_rfl) (by kernel_rfl) ?_
    repeat (go_big_quiet_step ((fail)))
    clear hxc
    refine wpQuiet_nil ?_
    intro w2 hww2
    have hqw2 := q_of_ext hww2
    clear hww2
    obtain ⟨hcw2, hfw2, hzw2⟩ := hqw2.facts
    try simp at hzw2
    try have hs0w2 : w.heap.size < w2.heap.size := by omega
    try have hs1w2 : w.heap.size + 1 < w2.heap.size := by omega
    have k5'' := (hqw2.facts.1 g 5 hb1).trans k5'
    have d5 := (hqw2.facts.1 _ 0 hs0).trans c5
    have d6 := (hqw2.facts.1 _ 0 hs1).trans c6
    have d7 := (hqw2.facts.1 _ 0 hs2).trans c7
    go_wp2_with fail
    refine (H0.out w2 (hq1.trans hqw2) _ _ _ d7 d6 d5 (by omega) (by omega) (by omega)).mono ?_
    rintro e w3 ⟨rfl, hq3⟩
    go_wp2_with fail
    go_ret
    exact ⟨by simp, (hq1.trans hqw2).trans hq3⟩
  · go_enter Try.func98, Try.ntmps98
    go_wp2_with fail
    rw [HW1.out]
    have hxc := ext_cell
    refine wp_region_ext (by kernel_rfl) (by kernel_rfl) ?_
    repeat (go_big_quiet_step ((fail)))
    clear hxc
    refine wpQuiet_nil ?_
    intro w2 hww2
    have hqw2 := q_of_ext hww2
    clear hww2
    obtain ⟨hcw2, hfw2, hzw2⟩ := hqw2.facts
    try simp at hzw2
    try have hs0w2 : w.heap.size < w2.heap.size := by omega
    try have hs1w2 : w.heap.size + 1 < w2.heap.size := by omega
    go_wp2_with fail
    go_ret
    exact ⟨by simp, hq1.trans hqw2⟩
theorem used_any (h : Hp) (w : World) (H : HpR w h) (hN : Near h.bks) :
    Calls Try.prog 36 #[h.bptr] w fun e w' => e = .returned (.int .i64 (used (h.bks.map (·.pb)))) ∧ Q w w' := by
  obtain ⟨A, c, -, hS, k5, hb⟩ := H.open_
  obtain ⟨hN1, hN2⟩ := hN
  unfold Hp.bptr
  obtain ⟨g, hg⟩ : ∃ g, g = h.blk := ⟨_, rfl⟩
  obtain ⟨l, hl⟩ : ∃ l, l = h.bks := ⟨_, rfl⟩
  obtain ⟨n, hn⟩ : ∃ n, n = h.bks.length := ⟨_, rfl⟩
  rw [← hn] at hS k5 hN1
  rw [← hl] at hS hN2 hn ⊢
  rw [← hg] at k5 hb ⊢
  have hni : (n : Int) ≤ 100 := by omega
  have U : ∀ k, 0 ≤ used ((l.map (·.pb)).take k) ∧ used ((l.map (·.pb)).take k) ≤ 1000000 := fun k => by
    refine ⟨used_nonneg _, ?_⟩
    have h1 := used_take_le (l.map (·.pb)) k
    have h2 := used_le (l.map (·.pb)) 10000 (fun x hx => by
      obtain ⟨y, hy, rfl⟩ := List.mem_map.1 hx
      have := (hN2 y hy).2.2
      omega)
    rw [List.length_map, ← hn] at h2
    omega
  have HU := hide U
  have HS := hide hS
  have HN := hide hN2
  have HNl := hide hn
  clear U hS hN2 hn hl hg H
  go_enter Try.func36, Try.ntmps36
  go_wp2_with fail
  go_loopw [3, 11] (fun vs vi wr => ∃ i : Nat, i ≤ n ∧ vi = .int .i64 i ∧ vs = .int .i64 (used ((l.map (·.pb)).take i)) ∧ Q w wr) (fun _ vi _ => n - (intOf vi).toNat)
  case atStart => exact ⟨0, by omega, by go_num, by simp [used], Q.refl _⟩
  case round =>
    obtain ⟨i, hi, rfl, rfl, hq⟩ := hrel
    have hsz := hq.size
    by_cases hlt : i < n
    · have hd0 : decide (i < n) = true := by simpa using hlt
      have hd1 : decide ((i : Int) < (n : Int)) = true := by simpa using hlt
      have hlti : (i : Int) < (n : Int) := by omega
      obtain ⟨b1, o1, ⟨⟨at_, bs⟩, row, cap⟩, rfl, hb1, g1, x1, x2⟩ := (HS.out.up hq).bk i hlt
      dsimp only at x1 x2
      have hbl := (HN.out _ (List.mem_of_getElem? g1)).2.2
      dsimp only at hbl
      have hu := used_take_succ (l.map (·.pb)) i (at_, bs) (by rw [List.getElem?_map, g1]; rfl)
      dsimp only at hu
      obtain ⟨u0, hu0⟩ : ∃ u0, u0 = used ((l.map (·.pb)).take i) := ⟨_, rfl⟩
      have hu1 := HU.out i
      rw [← hu0] at hu hu1 ⊢
      obtain ⟨m, hm⟩ : ∃ m, m = bs.length := ⟨_, rfl⟩
      rw [← hm] at x2 hbl hu
      have hmi : (m : Int) ≤ 10000 := by omega
      have hmi0 : 0 ≤ (m : Int) := by omega
      obtain ⟨hu2, hu3⟩ := hu1
      have HU1 := hide hu
      have G1 := hide g1
      clear g1 hm hu hu0
      go_wp2_with fail
      go_roundw
      case rel => exact ⟨i + 1, by omega, by go_num, by rw [HU1.out], by first | exact hq.alloc _ | exact hq.drew.alloc _⟩
      case measure => simp [intOf] <;> omega
    · have hd0 : decide (i < n) = false := by simpa using hlt
      have hd1 : decide ((i : Int) < (n : Int)) = false := by simpa using hlt
      obtain rfl : i = n := by omega
      go_wp2_with fail
      go_ret
      exact ⟨ret_int (by rw [List.take_of_length_le (by rw [List.length_map, ← HNl.out]; exact Nat.le_refl _)]), hq⟩
end Go.Proofs.Ytegpkcbmgjoicaa
