/- slices.Concat of byte slices, and the small writers of the program's Encode. The small writers of both Encode. The bytes of an object in plain Lean; append onto a full row; the reference's small writers. The walk of the program's Encode. The walk of the reference's Encode. Conditions: as each theorem says. -/
import Derived.Test.YtiilkiggfjpibaaLinkU6
import Derived.Test.YtiilkiggfjpibaaBase
import Derived.Test.YtiilkiggfjpibaaLinkU1
namespace Go.Proofs.Ytiilkiggfjpibaa
open Go.RowKit LK
set_option linter.unusedVariables false
set_option linter.unusedSimpArgs false
/-- a slice of bytes that lies in memory -/
structure B8 (w : World) (l : SlV Int) : Prop where
  sl : Sl 1 (encI .u8) w l.A l.n l.c l.xs
  nil_ : l.A = none → l.n = 0 ∧ l.c = 0
theorem B8.up {w w' : World} {l : SlV Int} (h : B8 w l) (hq : Q w w') : B8 w' l := ⟨h.sl.up hq, h.nil_⟩
theorem B8.own {w : World} {B : Nat} {v : Value} {xs : List Int} (h : w.ownsRow B 5 1 v xs.length (xs.map (Value.int .u8))) : ∃ l : SlV Int, v = l.val ∧ l.xs = xs ∧ l.n = xs.length ∧ B8 w l := by
  obtain ⟨A, c, rfl, hs⟩ := sl_own8 h
  refine ⟨⟨A, xs.length, c, xs⟩, rfl, rfl, rfl, hs, fun hA => ?_⟩
  rcases h.2 with ⟨e0, _⟩ | ⟨g, cap, cur, e0, _⟩
  · injection e0 with _ a b; exact ⟨a, b⟩
  · dsimp only at hA
    rw [hA] at e0; cases e0
theorem growB (k : Nat) (w : World) (hk : k ≤ 1000000) : Calls Try.prog 102 #[.slice none 0 0, .int .i64 (k : Nat)] w fun e w' => ∃ v, e = .returned v ∧ w'.ownsRow w.heap.size 5 1 v 0 [] ∧ Q w w' := by
  have d0 : decide ((k : Int) < 0) = false := by simp <;> omega
  rcases Nat.eq_zero_or_pos k with rfl | h0
  · go_enter Try.func102, Try.ntmps102
    go_wp2_with fail
    go_ret
    exact ⟨_, rfl, World.ownsRow_nil _ _ _ _, Q.refl _⟩
  · have d1 : decide ((0 : Int) < (k : Int)) = true := by simp <;> omega
    have d2 : decide (0 < k) = true := by simp <;> omega
    obtain ⟨i0, hi, hz0, hz1, hz2⟩ := info_parts (show (Try.prog.info? 5).map (fun i => (i.zero, i.size, i.bytes)) = some (some (.int .u8 0), 1, 1) by kernel_rfl)
    have hr := fun W => Lib.run_append_nil_zeros (P := Try.prog) W 30 3 30 5 i0 (.int .u8 0) .i64 .i64 Try.underlying30 Try.underlying3 hi hz0 k h0 (by omega) (by omega) (by rw [hz2]; omega)
    have hg := grownCap_le_maxLen w k 0 5 (by unfold maxLen; omega)
    have hge := grownCap_ge w k 0 5
    obtain ⟨cc, hcc⟩ : ∃ cc, grownCap w k 0 5 = cc := ⟨_, rfl⟩
    have hr0 := hr w
    rw [hcc] at hr0 hg hge
    obtain ⟨C, hC⟩ : ∃ C, Builtin.zeroCells (Value.int .u8 0).cells k ++ Builtin.zeroCells (Value.int .u8 0).cells (cc - k) = C := ⟨_, rfl⟩
    have hCs : C.size = cc := by rw [← hC]; simp [Builtin.zeroCells, Value.cells]; omega
    rw [hC] at hr0
    unfold maxLen at hg
    have hgi : (cc : Int) ≤ 9223372036854775807 := by omega
    have HC := hide hCs
    have HR0 := hide hr0
    clear hr hcc hC hCs hi hz0 hz1 hz2 hr0
    go_enter Try.func102, Try.ntmps102
    go_wp2_with (at_builtin; refine Lib.wpList_append_run _ rfl _ _ 30 3 rfl _ _ rfl rfl _ _ HR0.out ?_)
    go_ret
    refine ⟨_, rfl, ?_, ((Q.refl w).drew).alloc _⟩
    exact World.ownsRow_made w.drew C cc (Nat.le_refl _) (by unfold maxLen; omega) (by rw [HC.out, Nat.mul_one])
def catL (ls : List (SlV Int)) : List Int := ls.flatMap (·.xs)
theorem catL_step {ls : List (SlV Int)} {k : Nat} {l : SlV Int} (h : ls[k]? = some l) : catL (ls.take (k + 1)) = catL (ls.take k) ++ l.xs := by
  unfold catL
  rw [List.take_add_one, h, Option.toList_some, List.flatMap_append]
  simp
theorem catL_le {ls : List (SlV Int)} (k : Nat) : (catL (ls.take k)).length ≤ (catL ls).length := by
  unfold catL
  conv => rhs; rw [← List.take_append_drop k ls, List.flatMap_append, List.length_append]
  omega
set_option maxRecDepth 100000 in
set_option maxHeartbeats 4000000 in
theorem Concat_any (A : Option Addr) (n c : Nat) (ls : List (SlV Int)) (w : World) (hR : Rd w w.heap.size A (ls.map SlV.val)) (hl : ls.length = n) (hn : n ≤ 100) (hb : ∀ l ∈ ls, B8 w l) (ht : (catL ls).length ≤ 100000) :
    Calls Try.prog 89 #[.slice A n c] w fun e w' => ∃ v, e = .returned v ∧ w'.ownsRow w.heap.size 5 1 v (catL ls).length ((catL ls).map (Value.int .u8)) ∧ Q w w' := by
  have hni : (n : Int) ≤ 100 := by omega
  obtain ⟨N, hN⟩ : ∃ N, (catL ls).length = N := ⟨_, rfl⟩
  rw [hN] at ht
  have HLE := hide (fun k => (catL_le (ls := ls) k))
  rw [hN] at HLE
  have HR := hide hR
  have HL := hide hl
  have HB := hide hb
  have HN := hide hN
  clear hR hl hb hN
  go_enter Try.func89, Try.ntmps89
  go_wp2_with fail
  go_loopw [3, 11] (fun vs vi wr => ∃ k : Nat, k ≤ n ∧ vi = .int .i64 k ∧ vs = .int .i64 ((catL (ls.take k)).length : Nat) ∧ Q w wr) (fun _ vi _ => n - (intOf vi).toNat)
  case atStart => exact ⟨0, by omega, by go_num, rfl, Q.refl _⟩
  case round =>
    obtain ⟨k, hk, rfl, rfl, hq⟩ := hrel
    have hle := HLE.out k
    obtain ⟨S, hS⟩ : ∃ S, (catL (ls.take k)).length = S := ⟨_, rfl⟩
    rw [hS] at hle ⊢
    have HS := hide hS
    have HQ := hide hq
    clear hq hS
    by_cases hlt : k < n
    · have hd1 : decide ((k : Int) < (n : Int)) = true := by simp; omega
      have hd0 : decide (k < n) = true := by simp; omega
      have hlti : (k : Int) < (n : Int) := by omega
      have hle1 := HLE.out (k + 1)
      obtain ⟨b, o, rfl, hbb, hcc⟩ := (HR.out.up HQ.out).at_ (by rw [List.length_map]; have := HL.out; omega)
      obtain ⟨l, hlk⟩ : ∃ l, ls[k]? = some l := ⟨_, List.getElem?_eq_getElem (by have := HL.out; omega)⟩
      have y0 : wr.cell? ⟨b, o + k, none⟩ = some (.slice l.A l.n l.c) := by
        rw [hcc k (by rw [List.length_map]; have := HL.out; omega), List.getElem_map]
        obtain ⟨_, e⟩ := List.getElem?_eq_some_iff.1 hlk
        rw [e]
        rfl
      have hlen := (HB.out l (List.mem_of_getElem? hlk)).sl.len
      rw [catL_step hlk, List.length_append, HS.out, hlen] at hle1
      have HE := hide (show ((catL (ls.take (k + 1))).length : Int) = (S : Int) + (l.n : Int) by rw [catL_step hlk, List.length_append, HS.out, hlen]; omega)
      obtain ⟨lA, ln, lc, lx⟩ := l
      dsimp only at y0 hle1 HE
      have hsi : (S : Int) + (ln : Int) ≤ 100000 := by omega
      have hneg : decide ((S : Int) + (ln : Int) < 0) = false := by simp; omega
      clear hcc hlk hlen
      go_wp2_with fail
      go_roundw
      case rel => exact ⟨k + 1, by omega, by go_num, by rw [HE.out], HQ.out⟩
      case measure => simp [intOf] <;> omega
    · have hd1 : decide ((k : Int) < (n : Int)) = false := by simp; omega
      have hd0 : decide (k < n) = false := by simp; omega
      obtain rfl : k = n := by omega
      have HSN := hide (show S = N by rw [← HS.out, ← HN.out, List.take_of_length_le (by rw [HL.out]; exact Nat.le_refl _)])
      have HG := hide (fun W => growB S W (by omega))
      go_wp2_with fail
      refine (HG.out wr).mono ?_
      rintro e w2 ⟨v2, rfl, hown2, hq2⟩
      have HQ2 := hide (HQ.out.trans hq2)
      have HO2 := hide (own_lower hown2 HQ.out.size)
      clear hown2 hq2 hd1 hd0
      go_wp2_with fail
      go_loopw [6, 27] (fun vs vi wx => ∃ j : Nat, j ≤ k ∧ vi = .int .i64 j ∧ Q w wx ∧ wx.ownsRow w.heap.size 5 1 vs (catL (ls.take j)).length ((catL (ls.take j)).map (Value.int .u8))) (fun _ vi _ => k - (intOf vi).toNat)
      case atStart => exact ⟨0, by omega, by go_num, HQ2.out, HO2.out⟩
      case round =>
        obtain ⟨j, hj, rfl, hqx, hrx⟩ := hrel
        obtain ⟨wx, rfl⟩ : ∃ wx : World, wx = wr := ⟨_, rfl⟩
        have HQX := hide hqx
        have HRX := hide hrx
        clear hqx hrx
        by_cases hjk : j < k
        · have hd1 : decide ((j : Int) < (k : Int)) = true := by simp; omega
          have hd0 : decide (j < k) = true := by simp; omega
          have hlti : (j : Int) < (k : Int) := by omega
          have hle1 := HLE.out (j + 1)
          obtain ⟨b, o, rfl, hbb, hcc⟩ := (HR.out.up HQX.out).at_ (by rw [List.length_map]; have := HL.out; omega)
          obtain ⟨l, hlk⟩ : ∃ l, ls[j]? = some l := ⟨_, List.getElem?_eq_getElem (by have := HL.out; omega)⟩
          have y0 : wx.cell? ⟨b, o + j, none⟩ = some (.slice l.A l.n l.c) := by
            rw [hcc j (by rw [List.length_map]; have := HL.out; omega), List.getElem_map]
            obtain ⟨_, e⟩ := List.getElem?_eq_some_iff.1 hlk
            rw [e]
            rfl
          have hb8 := (HB.out l (List.mem_of_getElem? hlk)).up HQX.out
          have hlen := hb8.sl.len
          have hst := catL_step hlk
          rw [hst, List.length_append, hlen] at hle1
          obtain ⟨lA, ln, lc, lx⟩ := l
          dsimp only at y0 hle1 hlen hst
          have HST := hide hst
          have HB8 := hide hb8
          have HLN := hide hlen
          clear hcc hlk hlen hst hb8
          go_wp2_with (at_builtin; go_loud (refine wpList_apps rfl El_u8 _ _ rfl rfl HRX.out rfl HB8.out.nil_ ?_ HB8.out.sl.rd ?_ ?_ ?_ ?_; (focus (rw [flatMap_length (k := 1) (fun _ => rfl), HB8.out.sl.len])); (focus (exact one_cell one_b8 _)); (focus omega); (focus (exact HQX.out.size)); intro v7 w7 hown7 hb7; have HO7 := hide hown7; have HB7 := hide (show Q w w7 from HQX.out.below.trans hb7); clear hown7 hb7))
          go_roundw
          case rel => exact ⟨j + 1, by omega, by go_num, HB7.out, by
            have h := HO7.out
            rw [flat8] at h
            dsimp only at h
            rw [HST.out, List.length_append, List.map_append, HLN.out]
            exact h⟩
          case measure => simp [intOf] <;> omega
        · have hd1 : decide ((j : Int) < (k : Int)) = false := by simp; omega
          have hd0 : decide (j < k) = false := by simp; omega
          obtain rfl : j = k := by omega
          have HE := hide (show catL (ls.take j) = catL ls by rw [List.take_of_length_le (by rw [HL.out]; exact Nat.le_refl _)])
          go_wp2_with fail
          go_ret
          exact ⟨_, rfl, by rw [HN.out]; have h := HRX.out; rw [HE.out, HN.out] at h; exact h, HQX.out⟩
theorem joined_any (A : Option Addr) (n c : Nat) (ls : List (SlV Int)) (w : World) (hR : Rd w w.heap.size A (ls.map SlV.val)) (hl : ls.length = n) (hn : n ≤ 100) (hb : ∀ l ∈ ls, B8 w l) (ht : (catL ls).length ≤ 100000) :
    Calls Try.prog 53 #[.slice A n c] w fun e w' => ∃ v, e = .returned v ∧ w'.ownsRow w.heap.size 5 1 v (catL ls).length ((catL ls).map (Value.int .u8)) ∧ Q w w' := by
  have HC := hide (Concat_any A n c ls w hR hl hn hb ht)
  clear hR hl hn hb ht
  go_enter Try.func53, Try.ntmps53
  go_wp2_with fail
  refine HC.out.mono ?_
  rintro e w2 ⟨v, rfl, hown, hq⟩
  go_wp2_with fail
  go_ret
  exact ⟨_, rfl, hown, hq⟩
end Go.Proofs.Ytiilkiggfjpibaa

namespace Go.Proofs.Ytiilkiggfjpibaa
open Go.RowKit LK
set_option linter.unusedVariables false
set_option linter.unusedSimpArgs false
def twoL (n : Int) : List Int := [n % 256, n / 256 % 256]
def oneL (n : Int) : List Int := [n % 256]
def nat8 (s : ByteArray) : List Int := (nat s).map fun (x : Nat) => (x : Int)
def namedL (s : ByteArray) : List Int := oneL s.size ++ nat8 s
theorem nat8_in (s : ByteArray) : In8 (nat8 s) := fun x hx => by
  obtain ⟨y, hy, rfl⟩ := List.mem_map.1 hx
  obtain ⟨z, _, rfl⟩ := List.mem_map.1 hy
  have := z.toNat_lt
  omega
theorem nat8_len (s : ByteArray) : (nat8 s).length = s.size := by unfold nat8; rw [List.length_map, nat_length]
theorem In8.app {xs ys : List Int} (h : In8 xs) (k : In8 ys) : In8 (xs ++ ys) := fun z hz => (List.mem_append.1 hz).elim (h z) (k z)
theorem twoL_in (n : Int) : In8 (twoL n) := fun x hx => by
  simp [twoL] at hx
  rcases hx with rfl | rfl <;> omega
theorem oneL_in (n : Int) : In8 (oneL n) := fun x hx => by
  simp [oneL] at hx
  omega
theorem namedL_in (s : ByteArray) : In8 (namedL s) := (oneL_in _).app (nat8_in s)
/-- the bytes of a text, in a new block -/
theorem B8.text {w W : World} {s : ByteArray} {c : Nat} (hlt : w.heap.size < W.heap.size) (hc : s.size ≤ c) (hm : c ≤ 9223372036854775807) (hcell : ∀ k, (h : k < s.size) → W.cell? ⟨w.heap.size, k, none⟩ = some (.int .u8 (s[k].toNat : Int))) :
    B8 W ⟨some ⟨w.heap.size, 0, none⟩, s.size, c, nat8 s⟩ := by
  refine ⟨⟨.inr ⟨w.heap.size, 0, rfl, hlt, fun j u hu => ?_⟩, nat8_len s, hc, hm⟩, fun h => by cases h⟩
  rw [flat8, List.getElem?_map] at hu
  obtain ⟨x, hx, rfl⟩ := Option.map_eq_some_iff.1 hu
  have hj : j < s.size := by rw [← nat8_len s]; exact (List.getElem?_eq_some_iff.1 hx).1
  unfold nat8 at hx
  rw [List.getElem?_map, nat_get s j hj] at hx
  simp at hx
  subst hx
  rw [Nat.zero_add]
  exact hcell j hj
theorem bytes_of_string2 {P : Program} (w : World) (src dst e : TypeId) (s : ByteArray) (hs : P.underlying src = some .string) (hd : P.underlying dst = some (.slice e)) (he : P.underlying e = some (.int .u8)) (hm : s.size ≤ 1000000) :
    ∃ c W, (convert src dst (.string s)).run P w = .ok (.slice (some ⟨w.heap.size, 0, none⟩) s.size c) W ∧ Q w W ∧ w.heap.size < W.heap.size ∧ s.size ≤ c ∧ c ≤ 9223372036854775807 ∧ ∀ k, (h : k < s.size) → W.cell? ⟨w.heap.size, k, none⟩ = some (.int .u8 (s[k].toNat : Int)) := by
  refine ⟨_, _, run_bytes_of_string w src dst e s hs hd he, (Q.refl w).drew.alloc _, by simp, grownCap_ge _ _ _ _, grownCap_le_maxLen w s.size 0 e (by unfold maxLen; omega), fun k h => ?_⟩
  have := World.cell?_alloc_mark w.drew (bytesRow s (grownCap w s.size 0 e)) e ((bytesRow s (grownCap w s.size 0 e)).size, (bytesRow s (grownCap w s.size 0 e)).size + 1) k
  exact this.trans (bytesRow_at s _ k h)
set_option maxRecDepth 100000 in
set_option maxHeartbeats 4000000 in
theorem one_wr (n : Int) (w : World) (h0 : 0 ≤ n) (h1 : n ≤ 1000000) : Calls Try.prog 55 #[.int .i64 n] w fun e w' => ∃ v, e = .returned v ∧ w'.ownsRow w.heap.size 5 1 v (oneL n).length ((oneL n).map (Value.int .u8)) ∧ Q w w' := by
  go_enter Try.func55, Try.ntmps55
  go_wp2_with fail
  go_ret
  exact ⟨_, rfl, World.ownsRow_lit w _ 1 (Nat.le_refl _) (by decide) rfl, (Q.refl w).alloc _⟩
theorem two_wr (n : Int) (w : World) (h0 : 0 ≤ n) (h1 : n ≤ 1000000) : Calls Try.prog 54 #[.int .i64 n] w fun e w' => ∃ v, e = .returned v ∧ w'.ownsRow w.heap.size 5 1 v (twoL n).length ((twoL n).map (Value.int .u8)) ∧ Q w w' := by
  go_enter Try.func54, Try.ntmps54
  go_wp2_with fail
  go_ret
  exact ⟨_, rfl, World.ownsRow_lit w _ 2 (Nat.le_refl _) (by decide) rfl, (Q.refl w).alloc _⟩
theorem rtwo_wr (n : Int) (w : World) (h0 : 0 ≤ n) (h1 : n ≤ 1000000) : Calls Try.prog 67 #[.int .i64 n] w fun e w' => ∃ v, e = .returned v ∧ w'.ownsRow w.heap.size 5 1 v (twoL n).length ((twoL n).map (Value.int .u8)) ∧ Q w w' := by
  have e1 : n.tmod 256 = n % 256 := by rw [Int.tmod_eq_emod_of_nonneg h0]
  have e2 : n.tdiv 256 = n / 256 := by rw [Int.tdiv_eq_ediv_of_nonneg h0]
  go_enter Try.func67, Try.ntmps67
  go_wp2_with fail
  go_ret
  refine ⟨_, rfl, ?_, (Q.refl w).alloc _⟩
  exact World.ownsRow_lit w _ 2 (Nat.le_refl _) (by decide) rfl
set_option maxRecDepth 100000 in
set_option maxHeartbeats 4000000 in
theorem named_wr (s : ByteArray) (w : World) (hs : s.size ≤ 1000) : Calls Try.prog 56 #[.string s] w fun e w' => ∃ v, e = .returned v ∧ w'.ownsRow w.heap.size 5 1 v (namedL s).length ((namedL s).map (Value.int .u8)) ∧ Q w w' := by
  have hsi : (s.size : Int) ≤ 1000 := by omega
  have HONE := hide (fun W => one_wr s.size W (by omega) (by omega))
  go_enter Try.func56, Try.ntmps56
  go_wp2_with fail
  refine (HONE.out w).mono ?_
  rintro e w1 ⟨v1, rfl, hown1, hq1⟩
  obtain ⟨l1, rfl, hx1, hn1, hb1⟩ := B8.own hown1
  obtain ⟨cc, W1, hrun, hq2, hlt1, hcc, hcm, hcell⟩ := bytes_of_string2 (P := Try.prog) w1 9 30 5 s Try.underlying9 Try.underlying30 Try.underlying5 (by omega)
  have hb2 := B8.text hlt1 hcc hcm hcell
  obtain ⟨lA, ln, lc, lx⟩ := l1
  dsimp only at hx1 hn1
  have hq3 : Q W1 (W1.alloc (.cells #[.slice lA ln lc, .slice (some ⟨w1.heap.size, 0, none⟩) s.size cc] 30)) := (Q.refl W1).alloc _
  have HJ := hide (joined_any (some ⟨W1.heap.size, 0, none⟩) 2 2 [⟨lA, ln, lc, lx⟩, ⟨some ⟨w1.heap.size, 0, none⟩, s.size, cc, nat8 s⟩] _
    (rd_blk (heap_alloc_new W1 (.cells #[.slice lA ln lc, .slice (some ⟨w1.heap.size, 0, none⟩) s.size cc] 30)) rfl) rfl (by decide) (fun l hl => by
      simp only [List.mem_cons, List.not_mem_nil, or_false] at hl
      rcases hl with rfl | rfl
      · exact (hb1.up hq2).up hq3
      · exact hb2.up hq3) (by simp only [catL, List.flatMap_cons, List.flatMap_nil, List.length_append, hx1, nat8_len, List.length_nil]; simp [oneL]; omega))
  have HE := hide (show catL [⟨lA, ln, lc, lx⟩, ⟨some ⟨w1.heap.size, 0, none⟩, s.size, cc, nat8 s⟩] = namedL s by simp [catL, hx1, namedL])
  have HQ := hide ((hq1.trans hq2).trans hq3)
  clear hown1 hb1 hb2 hcell hx1 hn1 hq2 hq3
  unfold SlV.val
  go_wp2_with fail
  refine HJ.out.mono ?_
  rintro e w5 ⟨v5, rfl, hown5, hq5⟩
  rw [HE.out] at hown5
  have HO5 := hide (own_lower hown5 HQ.out.size)
  have HQ5 := hide (HQ.out.trans hq5)
  clear hown5 hq5 hrun
  go_wp2_with fail
  go_ret
  exact ⟨_, rfl, HO5.out, HQ5.out⟩
end Go.Proofs.Ytiilkiggfjpibaa

namespace Go.Proofs.Ytiilkiggfjpibaa
open Go.RowKit LK
set_option linter.unusedVariables false
set_option linter.unusedSimpArgs false
def symL (x : Sym) : List Int := namedL x.1 ++ twoL x.2
def wntL (x : Wnt) : List Int := oneL x.2.1 ++ namedL x.2.2 ++ twoL x.1
def encL (bs : List Int) (ss : List Sym) (ws : List Wnt) : List Int := twoL bs.length ++ bs ++ oneL ss.length ++ ss.flatMap symL ++ oneL ws.length ++ ws.flatMap wntL
def encR (o : OV) : List Int := if o.valid = 0 then encL o.1.xs o.2.1.xs o.2.2.xs else []
theorem In8.flat {α : Type} {f : α → List Int} (h : ∀ x, In8 (f x)) (xs : List α) : In8 (xs.flatMap f) := fun z hz => by
  obtain ⟨x, _, hx⟩ := List.mem_flatMap.1 hz
  exact h x z hx
theorem encL_in {bs : List Int} (h : In8 bs) (ss : List Sym) (ws : List Wnt) : In8 (encL bs ss ws) :=
  (((((twoL_in _).app h).app (oneL_in _)).app (In8.flat (fun x => (namedL_in _).app (twoL_in _)) ss)).app (oneL_in _)).app (In8.flat (fun x => ((oneL_in _).app (namedL_in _)).app (twoL_in _)) ws)
theorem encR_in {o : OV} (h : In8 o.1.xs) : In8 (encR o) := by
  unfold encR
  split
  · exact encL_in h _ _
  · intro x hx; cases hx
theorem namedL_len (s : ByteArray) : (namedL s).length = s.size + 1 := by unfold namedL; rw [List.length_append, nat8_len]; simp [oneL]; omega
theorem symL_len (x : Sym) : (symL x).length = x.1.size + 3 := by unfold symL; rw [List.length_append, namedL_len]; simp [twoL]
theorem wntL_len (x : Wnt) : (wntL x).length = x.2.2.size + 4 := by unfold wntL; rw [List.length_append, List.length_append, namedL_len]; simp [twoL, oneL]; omega
theorem flat_len {α : Type} {f : α → List Int} {m : Nat} : ∀ {xs : List α}, (∀ x ∈ xs, (f x).length ≤ m) → (xs.flatMap f).length ≤ m * xs.length
  | [], _ => by simp
  | x :: r, h => by
    have a := h x (List.mem_cons_self ..)
    have b := flat_len (xs := r) (fun y hy => h y (List.mem_cons_of_mem _ hy))
    rw [List.flatMap_cons, List.length_append, List.length_cons, Nat.mul_add]
    omega
/-- what a right object's parts are bounded by -/
structure Fit (bs : List Int) (ss : List Sym) (ws : List Wnt) : Prop where
  b : bs.length ≤ 512
  s : ss.length ≤ 16
  w : ws.length ≤ 16
  sa : ∀ x ∈ ss, x.1.size ≤ 8 ∧ 0 ≤ x.2 ∧ x.2 ≤ 512
  wa : ∀ x ∈ ws, x.2.2.size ≤ 8 ∧ 0 ≤ x.1 ∧ x.1 ≤ 512 ∧ 0 ≤ x.2.1 ∧ x.2.1 ≤ 1
theorem Fit.of {w : World} {o : OV} (hO : ObR w o) (h : o.valid = 0) : Fit o.1.xs o.2.1.xs o.2.2.xs := by
  obtain ⟨v0, v1, v2⟩ := valid_parts hO.s.len h
  have hl0 := hO.b.len
  have hl1 := hO.s.len
  refine ⟨by omega, by omega, wants_le h, fun x hx => ?_, fun x hx => ?_⟩
  · have := v2 x hx
    omega
  · have hb : soundB o.1.n o.2.1.xs o.2.2.xs = true := by
      unfold OV.valid validF at h
      cases hs : soundB o.1.n o.2.1.xs o.2.2.xs with
      | true => rfl
      | false => rw [hs] at h; split at h <;> simp at h
    simp only [soundB, Bool.and_eq_true] at hb
    have hx2 := wantsOk_mem hb.2 hx
    unfold wntOk nameB at hx2
    simp only [Bool.and_eq_true, decide_eq_true_eq] at hx2
    omega
section
variable {P : Program} {t tx e size bytes : Nat} {w : World} {base : Nat}
/-- append onto a full row of the call's own: at most a new row -/
theorem run_append_full (E : El P t e size bytes) {b0 : Option Addr} {n m : Nat} {olds news : List Value} {x : Value} (hown : w.ownsRow base e size (.slice b0 n n) n olds) (hS : Src P size tx x m news w)
    (hb : (n + m) * bytes ≤ 140737488355328) (hbase : base ≤ w.heap.size) (ty : TypeId) :
    ∃ v w', (Builtin.append_ #[t, tx] ty #[.slice b0 n n, x]).run P w = .ok v w' ∧ w'.ownsRow base e size v (n + m) (olds ++ news) ∧ Q w w' := by
  obtain ⟨i, z, hi, hz, hsz, hby, hzs⟩ := E.inf
  have hle : n + m ≤ (n + m) * bytes := Nat.le_mul_of_pos_right _ E.bpos
  subst hsz
  rcases Nat.eq_zero_or_pos m with h0 | h0
  · subst h0
    have : news = [] := List.eq_nil_of_length_eq_zero (by simpa using hS.newsLen)
    subst this
    exact ⟨_, _, run_append_nothing w t tx ty e i E.und hi b0 n n (Nat.le_refl _) _ hS, by simpa using hown, Q.refl w⟩
  · have hf : (Builtin.firstCells i.size n (.slice b0 n n)).run P w.drew = .ok olds.toArray w.drew := by
      rcases hown.2 with ⟨e0, hn0⟩ | ⟨g, cap, cur, e0, hg, hh, hn, hc, hcs, ht⟩
      · subst hn0
        injection e0 with e1
        subst e1
        have : olds = [] := List.eq_nil_of_length_eq_zero (by simpa using hown.1)
        subst this
        exact run_firstCells_none w.drew i.size 0 0 0
      · injection e0 with e1
        subst e1
        refine run_firstCells_some w.drew i.size n _ n n olds hown.1 (fun j u hu => ?_)
        have := hown.cells (g := g) rfl j u hu
        simpa using this
    have hr2 := run_append_grow_src (P := P) w t tx ty e i z E.und hi hz b0 n n olds hf x m news hS (by omega) (by omega) (growslice_fits (by omega) (by rw [hby]; exact hb))
    refine ⟨_, _, hr2, ?_, (Q.refl w).drew.alloc _⟩
    have hge := grownCap_ge w (n + m) n e
    have hcm : grownCap w (n + m) n e ≤ maxLen := grownCap_le_maxLen w (n + m) n e (by simp only [maxLen]; omega)
    have hlen : (olds ++ news).length = (n + m) * i.size := by rw [List.length_append, hown.1, hS.newsLen, Nat.add_mul]
    refine ⟨hlen, .inr ⟨w.heap.size, _, _, rfl, hbase, heap_alloc_new w.drew _, hge, hcm, ?_, ?_⟩⟩
    · simp only [Array.size_append, List.size_toArray, hlen, size_zeroCells, hzs, ← Nat.add_mul]
      congr 1
      omega
    · simp only [Array.toList_append]
      rw [← hlen]
      exact List.take_left
end
/-- the operation, on the walk's list -/
theorem wpList_appfull {P : Program} {t tx e size bytes : Nat} {w : World} {base : Nat} {ops : Array Oper} {rest : List Oper} {o : Oper} {a : Act} {Q' : Exit → Act → World → Prop} (hgd : o.guard = none) (E : El P t e size bytes) (s x : Operand)
    (ho : o.op = .call { callee := .builtin .append, args := #[s, x], argTypes := #[t, tx] }) {b0 : Option Addr} {n m : Nat} {olds news : List Value} {xv : Value} (hs : a.eval s = .slice b0 n n) (hx : a.eval x = xv) (hown : w.ownsRow base e size (.slice b0 n n) n olds) (hS : Src P size tx xv m news w)
    (hb : (n + m) * bytes ≤ 140737488355328) (hbase : base ≤ w.heap.size) (h : ∀ v w', w'.ownsRow base e size v (n + m) (olds ++ news) → Q w w' → wpList P ops Q' rest (a.put o.dst v) w') : wpList P ops Q' (o :: rest) a w := by
  obtain ⟨v, w', hr, h2, h3⟩ := run_append_full (P := P) (ty := o.type) E hown hS hb hbase
  exact Lib.wpList_append_run w hgd s x t tx ho _ xv hs hx v w' hr (h v w' h2 h3)
/-- within a region -/
theorem Ri.wp_append_full {P : Program} {t tx e size bytes : Nat} {w : World} {base : Nat} {R : Exit → Act → World → Prop} {o : Oper} {A : Act} {φ : Value → World → Prop} (E : El P t e size bytes) (s x : Operand) (ho : o.op = .call { callee := .builtin .append, args := #[s, x], argTypes := #[t, tx] })
    {b0 : Option Addr} {n m : Nat} {olds news : List Value} {xv : Value} (hs : A.eval s = .slice b0 n n) (hx : A.eval x = xv) (hown : w.ownsRow base e size (.slice b0 n n) n olds) (hS : Src P size tx xv m news w)
    (hb : (n + m) * bytes ≤ 140737488355328) (hbase : base ≤ w.heap.size) (h : ∀ v w', w'.ownsRow base e size v (n + m) (olds ++ news) → φ v w') :
    o.wp P A w (fun a' w' => ∃ v, a' = A.put o.dst v ∧ Q w w' ∧ φ v w') R := by
  obtain ⟨v, w', hr2, h2, h3⟩ := run_append_full (P := P) (ty := o.type) E hown hS hb hbase
  refine Ri.wp_val v (w' := w') ?_ h3 (h v w' h2)
  unfold execOp
  simp only [ho, resolve, invoke, builtin, Sem.run_bind, Sem.run_pure, Result.andThen_ok, List.map_toArray, List.map_cons, List.map_nil, hs, hx, hr2]
theorem byteCells8 (s : ByteArray) : byteCells s = (nat8 s).map (Value.int .u8) := by
  unfold byteCells nat8 nat
  rw [List.map_map, List.map_map]
  rfl
theorem src_of {P : Program} {t e : TypeId} {w : World} {l : SlV Int} (hu : P.underlying t = some (.slice e)) (h : B8 w l) : Src P 1 t l.val l.n (l.xs.map (Value.int .u8)) w := by
  obtain ⟨A, n, c, xs⟩ := l
  have hl := h.sl.len
  dsimp only at hl
  rcases A with _ | ad
  · obtain ⟨h1, h2⟩ := h.nil_ rfl
    dsimp only at h1 h2
    subst h1
    subst h2
    have : xs = [] := List.eq_nil_of_length_eq_zero hl
    subst this
    exact Src.ofNil w hu 0
  · refine Src.ofSlice w hu ad n c _ (by rw [List.length_map, hl, Nat.mul_one]) (fun j u hj => ?_) (fun u hu => by obtain ⟨x, _, rfl⟩ := List.mem_map.1 hu; rfl)
    have hr := h.sl.rd
    rw [flat8] at hr
    dsimp only at hr
    rcases hr with h0 | ⟨b, o, h2, _, h3⟩
    · rw [h0] at hj; simp at hj
    · obtain rfl := Option.some.inj h2
      rw [addr_add]
      exact h3 j u hj
set_option maxRecDepth 100000 in
set_option maxHeartbeats 4000000 in
theorem rnamed_wr (s : ByteArray) (w : World) (hs : s.size ≤ 1000) : Calls Try.prog 68 #[.string s] w fun e w' => ∃ v, e = .returned v ∧ w'.ownsRow w.heap.size 5 1 v (namedL s).length ((namedL s).map (Value.int .u8)) ∧ Q w w' := by
  have hsi : (s.size : Int) ≤ 1000 := by omega
  have ho1 : (w.alloc (.cells #[.int .u8 ((s.size : Int) % 256)] 5)).ownsRow w.heap.size 5 1 (.slice (some ⟨w.heap.size, 0, none⟩) 1 1) 1 [.int .u8 ((s.size : Int) % 256)] := World.ownsRow_lit w _ 1 (Nat.le_refl _) (by decide) rfl
  have HO1 := hide ho1
  have HS := hide (Src.ofString (P := Try.prog) (w.alloc (.cells #[.int .u8 ((s.size : Int) % 256)] 5)) (tx := 9) Try.underlying9 s)
  clear ho1
  go_enter Try.func68, Try.ntmps68
  go_wp2_with (at_builtin; go_loud (refine wpList_appfull rfl El_u8 _ _ rfl rfl rfl HO1.out HS.out ?_ ?_ ?_; (focus omega); (focus (simp)); intro v7 w7 hown7 hq7; have HO7 := hide hown7; have HQ7 := hide (show Q w w7 from ((Q.refl w).alloc _).trans hq7); clear hown7 hq7))
  go_ret
  refine ⟨_, rfl, ?_, HQ7.out⟩
  have h := HO7.out
  rw [byteCells8] at h
  rw [namedL_len, Nat.add_comm]
  exact h
theorem rtwo_wr2 (n : Int) (w : World) (h0 : 0 ≤ n) (h1 : n ≤ 1000000) : Calls Try.prog 67 #[.int .i64 n] w fun e w' => e = .returned (.slice (some ⟨w.heap.size, 0, none⟩) 2 2) ∧ w'.ownsRow w.heap.size 5 1 (.slice (some ⟨w.heap.size, 0, none⟩) 2 2) 2 ((twoL n).map (Value.int .u8)) ∧ Q w w' := by
  have e1 : n.tmod 256 = n % 256 := by rw [Int.tmod_eq_emod_of_nonneg h0]
  have e2 : n.tdiv 256 = n / 256 := by rw [Int.tdiv_eq_ediv_of_nonneg h0]
  go_enter Try.func67, Try.ntmps67
  go_wp2_with fail
  go_ret
  exact ⟨rfl, World.ownsRow_lit w _ 2 (Nat.le_refl _) (by decide) rfl, (Q.refl w).alloc _⟩
end Go.Proofs.Ytiilkiggfjpibaa

namespace Go.Proofs.Ytiilkiggfjpibaa
open Go.RowKit LK
set_option linter.unusedVariables false
set_option linter.unusedSimpArgs false
def isB8 (xs : List Int) (v : Value) (w : World) : Prop := ∃ l : SlV Int, v = l.val ∧ l.xs = xs ∧ B8 w l
def isLs (n : Nat) (xs : List Int) (v : Value) (w : World) : Prop := ∃ A c ls, v = .slice A n c ∧ Rd w w.heap.size A (ls.map SlV.val) ∧ ls.length = n ∧ catL ls = xs ∧ ∀ l ∈ ls, B8 w l
def isOwn (B : Nat) (xs : List Int) (v : Value) (w : World) : Prop := w.ownsRow B 5 1 v xs.length (xs.map (Value.int .u8))
theorem mono_b8 (xs : List Int) : Ri.Mono (isB8 xs) := fun _ _ _ ⟨l, h1, h2, h3⟩ hq => ⟨l, h1, h2, h3.up hq⟩
theorem mono_ls (n : Nat) (xs : List Int) : Ri.Mono (isLs n xs) := fun _ _ _ ⟨A, c, ls, h1, h2, h3, h4, h5⟩ hq => ⟨A, c, ls, h1, h2.up hq, h3, h4, fun l hl => (h5 l hl).up hq⟩
theorem mono_own (B : Nat) (xs : List Int) : Ri.Mono (isOwn B xs) := fun _ _ _ h hq => own_q h hq
theorem own_b8 {B : Nat} {xs : List Int} {v : Value} {w : World} (h : isOwn B xs v w) : isB8 xs v w := by
  obtain ⟨l, h1, h2, _, h3⟩ := B8.own h
  exact ⟨l, h1, h2, h3⟩
theorem El_bs : El Try.prog 133 30 1 24 := El.of Try.underlying133 (show (Try.prog.info? 30).map (fun i => (i.zero, i.size, i.bytes)) = some (some (.slice none 0 0), 1, 24) by kernel_rfl) rfl (by decide) (by decide)
theorem ls_new {w : World} {ls : List (SlV Int)} {n : Nat} {xs : List Int} {cells : Array Value} (hc : cells.toList = ls.map SlV.val) (hn : ls.length = n) (hx : catL ls = xs) (h : ∀ l ∈ ls, B8 w l) : isLs n xs (.slice (some ⟨w.heap.size, 0, none⟩) n n) (w.alloc (.cells cells 30)) :=
  ⟨_, _, ls, rfl, rd_blk (heap_alloc_new w _) hc, hn, hx, fun l hl => (h l hl).up ((Q.refl w).alloc _)⟩
theorem joined_ls {n : Nat} {xs : List Int} {v : Value} {w : World} {B : Nat} (h : isLs n xs v w) (hn : n ≤ 100) (ht : xs.length ≤ 100000) (hB : B ≤ w.heap.size) : Calls Try.prog 53 #[v] w fun e w' => ∃ v, e = .returned v ∧ Q w w' ∧ isOwn B xs v w' := by
  obtain ⟨A, c, ls, rfl, hr, hl, rfl, hb⟩ := h
  refine (joined_any A n c ls w hr hl hn hb ht).mono ?_
  rintro e w' ⟨v, rfl, ho, hq⟩
  exact ⟨v, rfl, hq, own_lower ho hB⟩
theorem own_call {f : FuncId} {args : Array Value} {w : World} {xs : List Int} (h : Calls Try.prog f args w fun e w' => ∃ v, e = .returned v ∧ w'.ownsRow w.heap.size 5 1 v xs.length (xs.map (Value.int .u8)) ∧ Q w w') : Calls Try.prog f args w fun e w' => ∃ v, e = .returned v ∧ Q w w' ∧ isB8 xs v w' := by
  refine h.mono ?_
  rintro e w' ⟨v, rfl, ho, hq⟩
  exact ⟨v, rfl, hq, own_b8 ho⟩
/-- a slice literal of byte slices -/
theorem Ri.wp_bs {R : Exit → Act → World → Prop} {o : Oper} {A : Act} {w : World} {φ : Value → World → Prop} {n : Nat} {parts : Array (Nat × Operand)} (ho : o.op = .buildSlice 133 n parts) (ls : List (SlV Int)) {xs : List Int} (hn : ls.length = n) (h0 : 0 < n) (h1 : n ≤ 1000)
    (hp : (parts.map fun (i, x) => (i, A.eval x)).toList = (ls.map SlV.val).zipIdx.map fun p => (p.2, p.1)) {cells : Array Value} (hf : ∀ z : Value, z.cells.size = 1 → Instr.fill (fun i => some (i * 1, 1)) ((Array.range (n * 1)).map (z.cells[· % z.cells.size]!)) ((ls.map SlV.val).zipIdx.map fun p => (p.2, p.1)) = some cells) (hc : cells.toList = ls.map SlV.val)
    (hx : catL ls = xs) (hb : ∀ l ∈ ls, B8 w l) (hφ : ∀ v w', isLs n xs v w' → φ v w') : o.wp Try.prog A w (fun a' w' => ∃ v, a' = A.put o.dst v ∧ Q w w' ∧ φ v w') R :=
  Ri.wp_slice El_bs rfl ho _ hp h0 h1 hf (hφ _ _ (ls_new hc hn hx hb))
theorem slv_cells (l : SlV Int) : l.val.cells = #[l.val] := rfl
theorem fill2 (z : Value) (a b : SlV Int) : Instr.fill (fun i => some (i * 1, 1)) ((Array.range (2 * 1)).map (z.cells[· % z.cells.size]!)) [(0, a.val), (1, b.val)] = some #[a.val, b.val] := by
  simp [Instr.fill, slv_cells, show Array.range 2 = #[0, 1] from rfl]
theorem fill3 (z : Value) (a b c : SlV Int) : Instr.fill (fun i => some (i * 1, 1)) ((Array.range (3 * 1)).map (z.cells[· % z.cells.size]!)) [(0, a.val), (1, b.val), (2, c.val)] = some #[a.val, b.val, c.val] := by
  simp [Instr.fill, slv_cells, show Array.range 3 = #[0, 1, 2] from rfl]
theorem fill4 (z : Value) (a b c d : SlV Int) : Instr.fill (fun i => some (i * 1, 1)) ((Array.range (4 * 1)).map (z.cells[· % z.cells.size]!)) [(0, a.val), (1, b.val), (2, c.val), (3, d.val)] = some #[a.val, b.val, c.val, d.val] := by
  simp [Instr.fill, slv_cells, show Array.range 4 = #[0, 1, 2, 3] from rfl]
set_option maxRecDepth 100000 in
set_option maxHeartbeats 4000000 in
theorem Encode_any (o : OV) (w : World) (hO : ObR w o) : Calls Try.prog 17 #[obV o] w fun e w' => ∃ v, e = .returned (.tuple #[v, .int .i64 (o.valid : Nat)]) ∧ w'.ownsRow w.heap.size 5 1 v (encR o).length ((encR o).map (Value.int .u8)) ∧ Q w w' := by
  have hfit := Fit.of hO
  have HO := hide hO
  have HVA := hide (Validate_any o.1.A o.1.n o.1.c o.2.1.A o.2.1.n o.2.1.c o.2.1.xs o.2.2.A o.2.2.n o.2.2.c o.2.2.xs)
  have hl0 := hO.b.len
  have hl1 := hO.s.len
  have hl2 := hO.t.len
  obtain ⟨⟨A0, n0, c0, bs⟩, ⟨A1, n1, c1, ss⟩, ⟨A2, n2, c2, ws⟩⟩ := o
  dsimp only at hfit hl0 hl1 hl2 HVA
  unfold obV SlV.val
  dsimp only
  clear hO
  obtain ⟨w2, hw2⟩ : ∃ w2, w.alloc (.cells #[.slice A0 n0 c0, .slice A1 n1 c1, .slice A2 n2 c2] 34) = w2 := ⟨_, rfl⟩
  have hq2 : Q w w2 := by rw [← hw2]; exact (Q.refl w).alloc _
  have hs2 : w2.heap.size = w.heap.size + 1 := by rw [← hw2]; simp
  have k0 : w2.cell? ⟨w.heap.size, 0, none⟩ = some (.slice A0 n0 c0) := by rw [← hw2]; simp
  have k1 : w2.cell? ⟨w.heap.size, 1, none⟩ = some (.slice A1 n1 c1) := by rw [← hw2]; simp
  have k2 : w2.cell? ⟨w.heap.size, 2, none⟩ = some (.slice A2 n2 c2) := by rw [← hw2]; simp
  have HW2 := hide hw2
  clear hw2
  have HVC := hide (HVA.out w2 (HO.out.up hq2).s (HO.out.up hq2).t HO.out.sok HO.out.tok)
  obtain ⟨vd, hvd⟩ : ∃ vd, validF n0 ss ws = vd := ⟨_, rfl⟩
  rw [hvd] at HVC
  have hvd2 : OV.valid (⟨A0, n0, c0, bs⟩, ⟨A1, n1, c1, ss⟩, ⟨A2, n2, c2, ws⟩) = vd := hvd
  rw [hvd2] at hfit ⊢
  clear hvd
  go_enter Try.func17, Try.ntmps17
  go_wp2_with fail
  rw [HW2.out]
  go_wp2_with fail
  refine HVC.out.mono ?_
  rintro e w3 ⟨rfl, hq3⟩
  rcases Nat.eq_zero_or_pos vd with h0 | h0
  · have hd : ((vd : Int) != 0) = false := by rw [h0]; rfl
    have HF := hide (hfit h0)
    have HE := hide (show encR (⟨A0, n0, c0, bs⟩, ⟨A1, n1, c1, ss⟩, ⟨A2, n2, c2, ws⟩) = encL bs ss ws by unfold encR; rw [hvd2, if_pos h0])
    have hn0 : n0 ≤ 512 := by have := HF.out.b; omega
    have hn1 : n1 ≤ 16 := by have := HF.out.s; omega
    have hn2 : n2 ≤ 16 := by have := HF.out.w; omega
    have hn1i : (n1 : Int) ≤ 16 := by omega
    have hn2i : (n2 : Int) ≤ 16 := by omega
    have k0 := (hq3.facts.1 _ 0 (show w.heap.size < w2.heap.size by omega)).trans k0
    have k1 := (hq3.facts.1 _ 1 (show w.heap.size < w2.heap.size by omega)).trans k1
    have k2 := (hq3.facts.1 _ 2 (show w.heap.size < w2.heap.size by omega)).trans k2
    have hs3 : w.heap.size < w3.heap.size := by have := hq3.size; omega
    have HQ3 := hide (hq2.trans hq3)
    have HL := hide (And.intro hl0 (And.intro hl1 hl2))
    have HT4 := hide (show (twoL n0 ++ bs ++ oneL n1).length ≤ 100000 by simp [twoL, oneL]; omega)
    have H0 := hide h0
    clear hfit hvd2 hq3 h0 hl0 hl1 hl2
    go_wp2_with fail
    clear hd
    have hq2 := HQ3.out
    have hs2 : w.heap.size < w3.heap.size := hs3
    refine Ri.madeL [(fun v _ => v = .pointer (some ⟨w.heap.size, 0, none⟩)), (fun v _ => v = .slice A0 n0 c0), (fun v _ => v = .int .i64 (n0 : Nat)), isB8 (twoL n0), (fun v _ => v = .pointer (some ⟨w.heap.size, 0, none⟩)), (fun v _ => v = .slice A0 n0 c0), (fun v _ => v = .pointer (some ⟨w.heap.size, 1, none⟩)), (fun v _ => v = .slice A1 n1 c1), (fun v _ => v = .int .i64 (n1 : Nat)), isB8 (oneL n1), isLs 3 (twoL n0 ++ bs ++ oneL n1), isOwn w.heap.size (twoL n0 ++ bs ++ oneL n1), isOwn w.heap.size (twoL n0 ++ bs ++ oneL n1)] (by kernel_rfl) (by kernel_rfl) ⟨Ri.Mono.is _, Ri.Mono.is _, Ri.Mono.is _, mono_b8 _, Ri.Mono.is _, Ri.Mono.is _, Ri.Mono.is _, Ri.Mono.is _, Ri.Mono.is _, mono_b8 _, mono_ls _ _, mono_own _ _, mono_own _ _, trivial⟩ ?_ ?_
    · refine Ri.All.cons ?_ (Ri.All.cons ?_ (Ri.All.cons ?_ (Ri.All.cons ?_ (Ri.All.cons ?_ (Ri.All.cons ?_ (Ri.All.cons ?_ (Ri.All.cons ?_ (Ri.All.cons ?_ (Ri.All.cons ?_ (Ri.All.cons ?_ (Ri.All.cons ?_ (Ri.All.cons ?_ Ri.All.nil))))))))))))
      · refine ⟨rfl, fun f W hq hf X hA hB hO => ?_⟩
        exact Ri.wp_field (f := _) rfl ((hB 1 (by kernel_rfl)).trans (show _ = Value.pointer (some ⟨w.heap.size, 0, none⟩) by simp [Act.eval])) Try.underlying34 rfl (sz := 0) (by kernel_rfl) rfl
      · refine ⟨rfl, fun f W hq hf X hA hB hO => ?_⟩
        exact Ri.wp_load1 rfl ((hA 15 0 (by kernel_rfl) (by simp)).trans (hf 0 (by kernel_rfl))) Try.underlying30 rfl ((hq.facts.1 w.heap.size _ (show _ < w3.heap.size by omega)).trans (show w3.cell? _ = _ from k0)) rfl
      · refine ⟨rfl, fun f W hq hf X hA hB hO => ?_⟩
        exact Ri.wp_len rfl ((hA 16 1 (by kernel_rfl) (by simp)).trans (hf 1 (by kernel_rfl))) Try.underlying30 rfl
      · refine ⟨rfl, fun f W hq hf X hA hB hO => ?_⟩
        have a0 := ((hA 17 2 (by kernel_rfl) (by simp)).trans (hf 2 (by kernel_rfl)))
        refine Ri.wp_call #[.int .i64 n0] rfl (by simp [a0]) Try.func54 (by kernel_rfl) rfl ((own_call (two_wr n0 W (by omega) (by omega))).mono fun e W2 hc => ?_)
        exact hc
      · refine ⟨rfl, fun f W hq hf X hA hB hO => ?_⟩
        exact Ri.wp_field (f := _) rfl ((hB 1 (by kernel_rfl)).trans (show _ = Value.pointer (some ⟨w.heap.size, 0, none⟩) by simp [Act.eval])) Try.underlying34 rfl (sz := 0) (by kernel_rfl) rfl
      · refine ⟨rfl, fun f W hq hf X hA hB hO => ?_⟩
        exact Ri.wp_load1 rfl ((hA 19 4 (by kernel_rfl) (by simp)).trans (hf 4 (by kernel_rfl))) Try.underlying30 rfl ((hq.facts.1 w.heap.size _ (show _ < w3.heap.size by omega)).trans (show w3.cell? _ = _ from k0)) rfl
      · refine ⟨rfl, fun f W hq hf X hA hB hO => ?_⟩
        exact Ri.wp_field (f := _) rfl ((hB 1 (by kernel_rfl)).trans (show _ = Value.pointer (some ⟨w.heap.size, 0, none⟩) by simp [Act.eval])) Try.underlying34 rfl (sz := 0) (by kernel_rfl) rfl
      · refine ⟨rfl, fun f W hq hf X hA hB hO => ?_⟩
        exact Ri.wp_load1 rfl ((hA 21 6 (by kernel_rfl) (by simp)).trans (hf 6 (by kernel_rfl))) Try.underlying31 rfl ((hq.facts.1 w.heap.size _ (show _ < w3.heap.size by omega)).trans (show w3.cell? _ = _ from k1)) rfl
      · refine ⟨rfl, fun f W hq hf X hA hB hO => ?_⟩
        exact Ri.wp_len rfl ((hA 22 7 (by kernel_rfl) (by simp)).trans (hf 7 (by kernel_rfl))) Try.underlying31 rfl
      · refine ⟨rfl, fun f W hq hf X hA hB hO => ?_⟩
        have a0 := ((hA 23 8 (by kernel_rfl) (by simp)).trans (hf 8 (by kernel_rfl)))
        refine Ri.wp_call #[.int .i64 n1] rfl (by simp [a0]) Try.func55 (by kernel_rfl) rfl ((own_call (one_wr n1 W (by omega) (by omega))).mono fun e W2 hc => ?_)
        exact hc
      · refine ⟨rfl, fun f W hq hf X hA hB hO => ?_⟩
        obtain ⟨l3, e3, x3, b3⟩ := hf 3 (by kernel_rfl)
        obtain ⟨l9, e9, x9, b9⟩ := hf 9 (by kernel_rfl)
        have E3 := (hA 18 3 (by kernel_rfl) (by simp)).trans e3
        have E5 := ((hA 20 5 (by kernel_rfl) (by simp)).trans (hf 5 (by kernel_rfl)))
        have E9 := (hA 24 9 (by kernel_rfl) (by simp)).trans e9
        have hB5 : B8 W ⟨A0, n0, c0, bs⟩ := ⟨HO.out.b.up (hq2.drew.trans hq), HO.out.bn⟩
        exact Ri.wp_bs rfl [l3, ⟨A0, n0, c0, bs⟩, l9] rfl (by decide) (by decide) (by simp [E3, E5, E9, SlV.val]) (fun z hz => fill3 z _ _ _) rfl (by simp [catL, x3, x9]) (fun l hl => by
          simp only [List.mem_cons, List.not_mem_nil, or_false] at hl
          rcases hl with rfl | rfl | rfl
          · exact b3
          · exact hB5
          · exact b9) (fun v w' h => h)
      · refine ⟨rfl, fun f W hq hf X hA hB hO => ?_⟩
        have E10 := hA 25 10 (by kernel_rfl) (by simp)
        have h9 : w3.heap.size ≤ W.heap.size := hq.size
        exact Ri.wp_call #[f 10] rfl (by simp [E10]) Try.func53 (by kernel_rfl) rfl (joined_ls (hf 10 (by kernel_rfl)) (by decide) HT4.out (by omega))
      · refine ⟨rfl, fun f W hq hf X hA hB hO => ?_⟩
        exact Ri.wp_assign rfl (hA 26 11 (by kernel_rfl) (by simp)) (hf 11 (by kernel_rfl))
    · intro f w4 hq4 hf
      have hV4 : isOwn w.heap.size (twoL n0 ++ bs ++ oneL n1) (f 12) w4 := hf 12 (by simp)
      obtain ⟨v4, hv4⟩ : ∃ v4, f 12 = v4 := ⟨_, rfl⟩
      rw [hv4] at hV4
      simp only [Ri.acts, Act.put]
      rw [hv4]
      have k1 := (hq4.facts.1 _ 1 hs3).trans k1
      have hs4 : w.heap.size < w4.heap.size := by have := hq4.size; omega
      have HQ4 := hide (HQ3.out.trans hq4)
      have K2 := hide ((hq4.facts.1 _ 2 hs3).trans k2)
      have HV4 := hide hV4
      clear hf k0 k2 hq4 hV4 hv4
      go_wp2_with fail
      go_loopw [5, 30] (fun v vi wr => ∃ k : Nat, k ≤ n1 ∧ vi = .int .i64 k ∧ Q w4 wr ∧ isOwn w.heap.size (twoL n0 ++ bs ++ oneL n1 ++ (ss.take k).flatMap symL) v wr) (fun _ vi _ => n1 - (intOf vi).toNat)
      case atStart => exact ⟨0, by omega, by go_num, Q.refl _, by have h := HV4.out; simpa using h⟩
      case round =>
        obtain ⟨k, hk, rfl, hq, hV⟩ := hrel
        obtain ⟨V, hVe⟩ : ∃ V, V = u5 := ⟨_, rfl⟩
        rw [← hVe] at hV ⊢
        clear hVe
        have hqk : Q w wr := HQ4.out.trans hq
        have HQK := hide hqk
        have HQR := hide hq
        have hszk : w.heap.size < wr.heap.size := by have := hq.size; omega
        clear hq
        by_cases hlt : k < n1
        · have hd1 : decide ((k : Int) < (n1 : Int)) = true := by simp; omega
          have hd0 : decide (k < n1) = true := by simp; omega
          have hlti : (k : Int) < (n1 : Int) := by omega
          obtain ⟨b1, o1, nm, at_, e1, hb1, g1, x1, x2⟩ := (HO.out.up hqk).s.sym k hlt
          dsimp only at e1 g1
          subst e1
          obtain ⟨z0, z1, z2⟩ := HF.out.sa _ (List.mem_of_getElem? g1)
          dsimp only at z0 z1 z2
          have hsl : (ss.take k).flatMap symL ++ symL (nm, at_) = (ss.take (k + 1)).flatMap symL := by rw [List.take_add_one, g1, Option.toList_some, List.flatMap_append]; simp
          obtain ⟨L, hL⟩ : ∃ L, twoL n0 ++ bs ++ oneL n1 ++ (ss.take k).flatMap symL = L := ⟨_, rfl⟩
          have hLl : L.length ≤ 1000 := by
            have a := flat_len (f := symL) (m := 11) (xs := ss.take k) (fun x hx => by have := HF.out.sa x (List.mem_of_mem_take hx); rw [symL_len]; omega)
            rw [List.length_take] at a
            have b : bs.length = n0 := HL.out.1
            rw [← hL]
            simp only [List.length_append, twoL, oneL, List.length_cons, List.length_nil]
            omega
          have HT8 := hide (show (L ++ symL (nm, at_)).length ≤ 100000 by rw [List.length_append, symL_len]; dsimp only; omega)
          have HSL := hide (show L ++ symL (nm, at_) = twoL n0 ++ bs ++ oneL n1 ++ (ss.take (k + 1)).flatMap symL by rw [← hL, ← hsl]; simp)
          rw [hL] at hV
          have HV := hide hV
          obtain ⟨w7, hw7⟩ : ∃ w7, wr.alloc (.cells #[.string nm, .int .i64 at_] 94) = w7 := ⟨_, rfl⟩
          have hq7 : Q wr w7 := by rw [← hw7]; exact (Q.refl wr).alloc _
          have hs7 : wr.heap.size < w7.heap.size := by rw [← hw7]; simp
          have s0 : w7.cell? ⟨wr.heap.size, 0, none⟩ = some (.string nm) := by rw [← hw7]; simp
          have s1 : w7.cell? ⟨wr.heap.size, 1, none⟩ = some (.int .i64 at_) := by rw [← hw7]; simp
          have HW7 := hide hw7
          clear hV hL hsl g1 hw7 hqk
          go_wp2_with fail
          rw [HW7.out]
          clear hd1 hd0 x1 x2
          refine Ri.madeL [(fun v _ => v = V), (fun v _ => v = .pointer (some ⟨wr.heap.size, 0, none⟩)), (fun v _ => v = .string nm), isB8 (namedL nm), (fun v _ => v = .pointer (some ⟨wr.heap.size, 1, none⟩)), (fun v _ => v = .int .i64 at_), isB8 (twoL at_), isLs 3 (L ++ symL (nm, at_)), isOwn w.heap.size (L ++ symL (nm, at_)), isOwn w.heap.size (L ++ symL (nm, at_))] (by kernel_rfl) (by kernel_rfl) ⟨Ri.Mono.is _, Ri.Mono.is _, Ri.Mono.is _, mono_b8 _, Ri.Mono.is _, Ri.Mono.is _, mono_b8 _, mono_ls _ _, mono_own _ _, mono_own _ _, trivial⟩ ?_ ?_
          · refine Ri.All.cons ?_ (Ri.All.cons ?_ (Ri.All.cons ?_ (Ri.All.cons ?_ (Ri.All.cons ?_ (Ri.All.cons ?_ (Ri.All.cons ?_ (Ri.All.cons ?_ (Ri.All.cons ?_ (Ri.All.cons ?_ Ri.All.nil)))))))))
            · refine ⟨rfl, fun f W hq hf X hA hB hO => ?_⟩
              exact Ri.wp_move rfl ((hA 5 9 (by kernel_rfl) (by simp)).trans ((hO 9 (by kernel_rfl)).trans (show _ = V by simp [Ri.old]))) rfl
            · refine ⟨rfl, fun f W hq hf X hA hB hO => ?_⟩
              exact Ri.wp_field (f := _) rfl ((hB 7 (by kernel_rfl)).trans (show _ = Value.pointer (some ⟨wr.heap.size, 0, none⟩) by simp [Act.eval])) Try.underlying94 rfl (sz := 0) (by kernel_rfl) rfl
            · refine ⟨rfl, fun f W hq hf X hA hB hO => ?_⟩
              exact Ri.wp_load1 rfl ((hA 35 1 (by kernel_rfl) (by simp)).trans (hf 1 (by kernel_rfl))) Try.underlying9 rfl ((hq.facts.1 wr.heap.size _ (show _ < w7.heap.size by omega)).trans (show w7.cell? _ = _ from s0)) rfl
            · refine ⟨rfl, fun f W hq hf X hA hB hO => ?_⟩
              have a0 := ((hA 36 2 (by kernel_rfl) (by simp)).trans (hf 2 (by kernel_rfl)))
              refine Ri.wp_call #[.string nm] rfl (by simp [a0]) Try.func56 (by kernel_rfl) rfl ((own_call (named_wr nm W (by omega))).mono fun e W2 hc => ?_)
              exact hc
            · refine ⟨rfl, fun f W hq hf X hA hB hO => ?_⟩
              exact Ri.wp_field (f := _) rfl ((hB 7 (by kernel_rfl)).trans (show _ = Value.pointer (some ⟨wr.heap.size, 0, none⟩) by simp [Act.eval])) Try.underlying94 rfl (sz := 0) (by kernel_rfl) rfl
            · refine ⟨rfl, fun f W hq hf X hA hB hO => ?_⟩
              exact Ri.wp_load1 rfl ((hA 38 4 (by kernel_rfl) (by simp)).trans (hf 4 (by kernel_rfl))) Try.underlying3 rfl ((hq.facts.1 wr.heap.size _ (show _ < w7.heap.size by omega)).trans (show w7.cell? _ = _ from s1)) rfl
            · refine ⟨rfl, fun f W hq hf X hA hB hO => ?_⟩
              have a0 := ((hA 39 5 (by kernel_rfl) (by simp)).trans (hf 5 (by kernel_rfl)))
              refine Ri.wp_call #[.int .i64 at_] rfl (by simp [a0]) Try.func54 (by kernel_rfl) rfl ((own_call (two_wr at_ W (by omega) (by omega))).mono fun e W2 hc => ?_)
              exact hc
            · refine ⟨rfl, fun f W hq hf X hA hB hO => ?_⟩
              obtain ⟨l3, e3, x3, b3⟩ := hf 3 (by kernel_rfl)
              obtain ⟨l6, e6, x6, b6⟩ := hf 6 (by kernel_rfl)
              have E0 := ((hA 34 0 (by kernel_rfl) (by simp)).trans (hf 0 (by kernel_rfl)))
              have E3 := (hA 37 3 (by kernel_rfl) (by simp)).trans e3
              have E6 := (hA 40 6 (by kernel_rfl) (by simp)).trans e6
              obtain ⟨l0, e0, x0, b0⟩ := own_b8 (own_q HV.out (hq7.drew.trans hq))
              rw [e0] at E0
              exact Ri.wp_bs rfl [l0, l3, l6] rfl (by decide) (by decide) (by simp [E0, E3, E6]) (fun z hz => fill3 z _ _ _) rfl (by simp [catL, x0, x3, x6, symL]) (fun l hl => by
                simp only [List.mem_cons, List.not_mem_nil, or_false] at hl
                rcases hl with rfl | rfl | rfl
                · exact b0
                · exact b3
                · exact b6) (fun v w' h => h)
            · refine ⟨rfl, fun f W hq hf X hA hB hO => ?_⟩
              have E7 := hA 41 7 (by kernel_rfl) (by simp)
              have h9 : w7.heap.size ≤ W.heap.size := hq.size
              exact Ri.wp_call #[f 7] rfl (by simp [E7]) Try.func53 (by kernel_rfl) rfl (joined_ls (hf 7 (by kernel_rfl)) (by decide) HT8.out (by omega))
            · refine ⟨rfl, fun f W hq hf X hA hB hO => ?_⟩
              exact Ri.wp_assign rfl (hA 42 8 (by kernel_rfl) (by simp)) (hf 8 (by kernel_rfl))
          · intro f w8 hq8 hf
            have hV8 : isOwn w.heap.size (L ++ symL (nm, at_)) (f 9) w8 := hf 9 (by simp)
            obtain ⟨v8, hv8⟩ : ∃ v8, f 9 = v8 := ⟨_, rfl⟩
            rw [hv8] at hV8
            simp only [Ri.acts, Act.put]
            rw [hv8]
            have HQ8 := hide (HQR.out.trans (hq7.trans hq8))
            have HV8 := hide hV8
            clear hf hq8 hV8 hv8 s0 s1
            go_wp2_with fail
            go_roundw
            case rel => exact ⟨k + 1, by omega, by go_num, HQ8.out, by rw [← HSL.out]; exact HV8.out⟩
            case measure => simp [intOf] <;> omega
        · have hd1 : decide ((k : Int) < (n1 : Int)) = false := by simp; omega
          have hd0 : decide (k < n1) = false := by simp; omega
          obtain rfl : k = n1 := by omega
          have hse : ss.take k = ss := List.take_of_length_le (by have := HL.out.2.1; omega)
          rw [hse] at hV
          have HV := hide hV
          have k2 := (HQR.out.facts.1 _ 2 hs4).trans K2.out
          clear hV hse hqk
          have HONE := hide (fun W => one_wr n2 W (by omega) (by omega))
          go_wp2_with fail
          refine (HONE.out wr).mono ?_
          rintro e w5 ⟨v5, rfl, hown5, hq5⟩
          obtain ⟨l0, e0, x0, b0⟩ := own_b8 (own_q HV.out hq5)
          obtain ⟨l5, e5, x5, b5⟩ := own_b8 hown5
          obtain ⟨L, hL⟩ : ∃ L, twoL n0 ++ bs ++ oneL k ++ ss.flatMap symL = L := ⟨_, rfl⟩
          have hLl : L.length ≤ 1000 := by
            have a := flat_len (f := symL) (m := 11) (xs := ss) (fun x hx => by have := HF.out.sa x hx; rw [symL_len]; omega)
            have b : bs.length = n0 := HL.out.1
            have c : ss.length = k := HL.out.2.1
            rw [← hL]
            simp only [List.length_append, twoL, oneL, List.length_cons, List.length_nil]
            omega
          rw [hL] at x0
          subst e0
          subst e5
          have HQ5 := hide (HQK.out.trans hq5)
          have k2 := (hq5.facts.1 _ 2 hszk).trans k2
          obtain ⟨w6, hw6⟩ : ∃ w6, w5.alloc (.cells #[l0.val, l5.val] 30) = w6 := ⟨_, rfl⟩
          have hq6 : Q w5 w6 := by rw [← hw6]; exact (Q.refl w5).alloc _
          have hs5 : w.heap.size < w5.heap.size := by have := hq5.size; omega
          have HJ := hide (joined_ls (B := w.heap.size) (ls_new (w := w5) (cells := #[l0.val, l5.val]) (ls := [l0, l5]) (n := 2) (xs := L ++ oneL n2) rfl rfl (by simp [catL, x0, x5]) (fun l hl => by
            simp only [List.mem_cons, List.not_mem_nil, or_false] at hl
            rcases hl with rfl | rfl
            · exact b0
            · exact b5)) (by decide) (by rw [List.length_append]; simp [oneL]; omega) (by rw [hw6]; have := hq6.size; omega))
          rw [hw6] at HJ
          have HW6 := hide hw6
          have hl0e : l0.val = .slice l0.A l0.n l0.c := rfl
          have hl5e : l5.val = .slice l5.A l5.n l5.c := rfl
          rw [hl0e, hl5e] at HW6
          rw [hl0e, hl5e]
          have HLL := hide hL
          clear hown5 x0 b0 x5 b5 hq5 hw6 hl0e hl5e hL
          go_wp2_with fail
          rw [HW6.out]
          refine HJ.out.mono ?_
          rintro e w9 ⟨v9, rfl, hq9, hV9⟩
          have hq69 := hq6.trans hq9
          have K2' := hide ((hq69.facts.1 _ 2 hs5).trans k2)
          have HQ9 := hide (HQ5.out.trans hq69)
          have hs9 : w.heap.size < w9.heap.size := by have := hq69.size; omega
          have k2' := K2'.out
          have HV9 := hide hV9
          clear hV9 hq9 hq69 hd1 hd0 k2 hq6
          go_wp2_with fail
          clear k2'
          go_loopw [5, 54] (fun v vi wr => ∃ j : Nat, j ≤ n2 ∧ vi = .int .i64 j ∧ Q w9 wr ∧ isOwn w.heap.size (L ++ oneL n2 ++ (ws.take j).flatMap wntL) v wr) (fun _ vi _ => n2 - (intOf vi).toNat)
          case atStart => exact ⟨0, by omega, by go_num, Q.refl _, by have h := HV9.out; simpa using h⟩
          case round =>
            obtain ⟨j, hj, rfl, hq, hV⟩ := hrel
            obtain ⟨V, hVe⟩ : ∃ V, V = u5 := ⟨_, rfl⟩
            rw [← hVe] at hV ⊢
            clear hVe
            have hqk : Q w wr := HQ9.out.trans hq
            have HQK := hide hqk
            have HQR := hide hq
            have hszk : w.heap.size < wr.heap.size := by have := hq.size; omega
            clear hq
            by_cases hlt2 : j < n2
            · have hd1 : decide ((j : Int) < (n2 : Int)) = true := by simp; omega
              have hd0 : decide (j < n2) = true := by simp; omega
              have hlti : (j : Int) < (n2 : Int) := by omega
              obtain ⟨b1, o1, at_, kd, nm, e1, hb1, g1, x1, x2, x3⟩ := (HO.out.up hqk).t.wnt j hlt2
              dsimp only at e1 g1
              subst e1
              obtain ⟨z0, z1, z2, z3, z4⟩ := HF.out.wa _ (List.mem_of_getElem? g1)
              dsimp only at z0 z1 z2 z3 z4
              have hsl : (ws.take j).flatMap wntL ++ wntL (at_, kd, nm) = (ws.take (j + 1)).flatMap wntL := by rw [List.take_add_one, g1, Option.toList_some, List.flatMap_append]; simp
              obtain ⟨L2, hL2⟩ : ∃ L2, L ++ oneL n2 ++ (ws.take j).flatMap wntL = L2 := ⟨_, rfl⟩
              have hLl2 : L2.length ≤ 2000 := by
                have a := flat_len (f := wntL) (m := 12) (xs := ws.take j) (fun x hx => by have := HF.out.wa x (List.mem_of_mem_take hx); rw [wntL_len]; omega)
                rw [List.length_take] at a
                rw [← hL2]
                simp only [List.length_append, oneL, List.length_cons, List.length_nil]
                omega
              have HT8 := hide (show (L2 ++ wntL (at_, kd, nm)).length ≤ 100000 by rw [List.length_append, wntL_len]; dsimp only; omega)
              have HSL := hide (show L2 ++ wntL (at_, kd, nm) = L ++ oneL n2 ++ (ws.take (j + 1)).flatMap wntL by rw [← hL2, ← hsl]; simp)
              rw [hL2] at hV
              have HV := hide hV
              obtain ⟨w7, hw7⟩ : ∃ w7, wr.alloc (.cells #[.int .i64 at_, .int .i64 kd, .string nm] 97) = w7 := ⟨_, rfl⟩
              have hq7 : Q wr w7 := by rw [← hw7]; exact (Q.refl wr).alloc _
              have hs7 : wr.heap.size < w7.heap.size := by rw [← hw7]; simp
              have s0 : w7.cell? ⟨wr.heap.size, 0, none⟩ = some (.int .i64 at_) := by rw [← hw7]; simp
              have s1 : w7.cell? ⟨wr.heap.size, 1, none⟩ = some (.int .i64 kd) := by rw [← hw7]; simp
              have s2 : w7.cell? ⟨wr.heap.size, 2, none⟩ = some (.string nm) := by rw [← hw7]; simp
              have HW7 := hide hw7
              clear hV hL2 hsl g1 hw7 hqk
              go_wp2_with fail
              rw [HW7.out]
              clear hd1 hd0 x1 x2 x3
              refine Ri.madeL [(fun v _ => v = V), (fun v _ => v = .pointer (some ⟨wr.heap.size, 1, none⟩)), (fun v _ => v = .int .i64 kd), isB8 (oneL kd), (fun v _ => v = .pointer (some ⟨wr.heap.size, 2, none⟩)), (fun v _ => v = .string nm), isB8 (namedL nm), (fun v _ => v = .pointer (some ⟨wr.heap.size, 0, none⟩)), (fun v _ => v = .int .i64 at_), isB8 (twoL at_), isLs 4 (L2 ++ wntL (at_, kd, nm)), isOwn w.heap.size (L2 ++ wntL (at_, kd, nm)), isOwn w.heap.size (L2 ++ wntL (at_, kd, nm))] (by kernel_rfl) (by kernel_rfl) ⟨Ri.Mono.is _, Ri.Mono.is _, Ri.Mono.is _, mono_b8 _, Ri.Mono.is _, Ri.Mono.is _, mono_b8 _, Ri.Mono.is _, Ri.Mono.is _, mono_b8 _, mono_ls _ _, mono_own _ _, mono_own _ _, trivial⟩ ?_ ?_
              · refine Ri.All.cons ?_ (Ri.All.cons ?_ (Ri.All.cons ?_ (Ri.All.cons ?_ (Ri.All.cons ?_ (Ri.All.cons ?_ (Ri.All.cons ?_ (Ri.All.cons ?_ (Ri.All.cons ?_ (Ri.All.cons ?_ (Ri.All.cons ?_ (Ri.All.cons ?_ (Ri.All.cons ?_ Ri.All.nil))))))))))))
                · refine ⟨rfl, fun f W hq hf X hA hB hO => ?_⟩
                  exact Ri.wp_move rfl ((hA 5 12 (by kernel_rfl) (by simp)).trans ((hO 12 (by kernel_rfl)).trans (show _ = V by simp [Ri.old]))) rfl
                · refine ⟨rfl, fun f W hq hf X hA hB hO => ?_⟩
                  exact Ri.wp_field (f := _) rfl ((hB 9 (by kernel_rfl)).trans (show _ = Value.pointer (some ⟨wr.heap.size, 0, none⟩) by simp [Act.eval])) Try.underlying97 rfl (sz := 0) (by kernel_rfl) rfl
                · refine ⟨rfl, fun f W hq hf X hA hB hO => ?_⟩
                  exact Ri.wp_load1 rfl ((hA 59 1 (by kernel_rfl) (by simp)).trans (hf 1 (by kernel_rfl))) Try.underlying3 rfl ((hq.facts.1 wr.heap.size _ (show _ < w7.heap.size by omega)).trans (show w7.cell? _ = _ from s1)) rfl
                · refine ⟨rfl, fun f W hq hf X hA hB hO => ?_⟩
                  have a0 := ((hA 60 2 (by kernel_rfl) (by simp)).trans (hf 2 (by kernel_rfl)))
                  refine Ri.wp_call #[.int .i64 kd] rfl (by simp [a0]) Try.func55 (by kernel_rfl) rfl ((own_call (one_wr kd W (by omega) (by omega))).mono fun e W2 hc => ?_)
                  exact hc
                · refine ⟨rfl, fun f W hq hf X hA hB hO => ?_⟩
                  exact Ri.wp_field (f := _) rfl ((hB 9 (by kernel_rfl)).trans (show _ = Value.pointer (some ⟨wr.heap.size, 0, none⟩) by simp [Act.eval])) Try.underlying97 rfl (sz := 0) (by kernel_rfl) rfl
                · refine ⟨rfl, fun f W hq hf X hA hB hO => ?_⟩
                  exact Ri.wp_load1 rfl ((hA 62 4 (by kernel_rfl) (by simp)).trans (hf 4 (by kernel_rfl))) Try.underlying9 rfl ((hq.facts.1 wr.heap.size _ (show _ < w7.heap.size by omega)).trans (show w7.cell? _ = _ from s2)) rfl
                · refine ⟨rfl, fun f W hq hf X hA hB hO => ?_⟩
                  have a0 := ((hA 63 5 (by kernel_rfl) (by simp)).trans (hf 5 (by kernel_rfl)))
                  refine Ri.wp_call #[.string nm] rfl (by simp [a0]) Try.func56 (by kernel_rfl) rfl ((own_call (named_wr nm W (by omega))).mono fun e W2 hc => ?_)
                  exact hc
                · refine ⟨rfl, fun f W hq hf X hA hB hO => ?_⟩
                  exact Ri.wp_field (f := _) rfl ((hB 9 (by kernel_rfl)).trans (show _ = Value.pointer (some ⟨wr.heap.size, 0, none⟩) by simp [Act.eval])) Try.underlying97 rfl (sz := 0) (by kernel_rfl) rfl
                · refine ⟨rfl, fun f W hq hf X hA hB hO => ?_⟩
                  exact Ri.wp_load1 rfl ((hA 65 7 (by kernel_rfl) (by simp)).trans (hf 7 (by kernel_rfl))) Try.underlying3 rfl ((hq.facts.1 wr.heap.size _ (show _ < w7.heap.size by omega)).trans (show w7.cell? _ = _ from s0)) rfl
                · refine ⟨rfl, fun f W hq hf X hA hB hO => ?_⟩
                  have a0 := ((hA 66 8 (by kernel_rfl) (by simp)).trans (hf 8 (by kernel_rfl)))
                  refine Ri.wp_call #[.int .i64 at_] rfl (by simp [a0]) Try.func54 (by kernel_rfl) rfl ((own_call (two_wr at_ W (by omega) (by omega))).mono fun e W2 hc => ?_)
                  exact hc
                · refine ⟨rfl, fun f W hq hf X hA hB hO => ?_⟩
                  obtain ⟨l3, e3, x3, b3⟩ := hf 3 (by kernel_rfl)
                  obtain ⟨l6, e6, x6, b6⟩ := hf 6 (by kernel_rfl)
                  obtain ⟨l9, e9, x9, b9⟩ := hf 9 (by kernel_rfl)
                  have E0 := ((hA 58 0 (by kernel_rfl) (by simp)).trans (hf 0 (by kernel_rfl)))
                  have E3 := (hA 61 3 (by kernel_rfl) (by simp)).trans e3
                  have E6 := (hA 64 6 (by kernel_rfl) (by simp)).trans e6
                  have E9 := (hA 67 9 (by kernel_rfl) (by simp)).trans e9
                  obtain ⟨l0, e0, x0, b0⟩ := own_b8 (own_q HV.out (hq7.drew.trans hq))
                  rw [e0] at E0
                  exact Ri.wp_bs rfl [l0, l3, l6, l9] rfl (by decide) (by decide) (by simp [E0, E3, E6, E9]) (fun z hz => fill4 z _ _ _ _) rfl (by simp [catL, x0, x3, x6, x9, wntL]) (fun l hl => by
                    simp only [List.mem_cons, List.not_mem_nil, or_false] at hl
                    rcases hl with rfl | rfl | rfl | rfl
                    · exact b0
                    · exact b3
                    · exact b6
                    · exact b9) (fun v w' h => h)
                · refine ⟨rfl, fun f W hq hf X hA hB hO => ?_⟩
                  have E10 := hA 68 10 (by kernel_rfl) (by simp)
                  have h9 : w7.heap.size ≤ W.heap.size := hq.size
                  exact Ri.wp_call #[f 10] rfl (by simp [E10]) Try.func53 (by kernel_rfl) rfl (joined_ls (hf 10 (by kernel_rfl)) (by decide) HT8.out (by omega))
                · refine ⟨rfl, fun f W hq hf X hA hB hO => ?_⟩
                  exact Ri.wp_assign rfl (hA 69 11 (by kernel_rfl) (by simp)) (hf 11 (by kernel_rfl))
              · intro f w8 hq8 hf
                have hV8 : isOwn w.heap.size (L2 ++ wntL (at_, kd, nm)) (f 12) w8 := hf 12 (by simp)
                obtain ⟨v8, hv8⟩ : ∃ v8, f 12 = v8 := ⟨_, rfl⟩
                rw [hv8] at hV8
                simp only [Ri.acts, Act.put]
                rw [hv8]
                have HQ8 := hide (HQR.out.trans (hq7.trans hq8))
                have HV8 := hide hV8
                clear hf hq8 hV8 hv8 s0 s1 s2
                go_wp2_with fail
                go_roundw
                case rel => exact ⟨j + 1, by omega, by go_num, HQ8.out, by rw [← HSL.out]; exact HV8.out⟩
                case measure => simp [intOf] <;> omega
            · have hd1 : decide ((j : Int) < (n2 : Int)) = false := by simp; omega
              have hd0 : decide (j < n2) = false := by simp; omega
              obtain rfl : j = n2 := by omega
              have hse : ws.take j = ws := List.take_of_length_le (by have := HL.out.2.2; omega)
              rw [hse] at hV
              have HR := hide (show L ++ oneL j ++ ws.flatMap wntL = encL bs ss ws by rw [← HLL.out]; unfold encL; rw [HL.out.1, HL.out.2.1, HL.out.2.2])
              rw [HR.out] at hV
              have HV := hide hV
              clear hV hse hqk
              go_wp2_with fail
              go_ret2
              exact ⟨_, by rw [H0.out]; rfl, by rw [HE.out]; exact HV.out, HQK.out⟩
  · have hd : ((vd : Int) != 0) = true := by simp; omega
    have HE := hide (show encR (⟨A0, n0, c0, bs⟩, ⟨A1, n1, c1, ss⟩, ⟨A2, n2, c2, ws⟩) = [] by unfold encR; rw [hvd2, if_neg (by omega)])
    clear hfit hvd2
    go_wp2_with fail
    go_ret2
    exact ⟨_, rfl, by rw [HE.out]; exact World.ownsRow_nil _ _ _ _, hq2.trans hq3⟩
end Go.Proofs.Ytiilkiggfjpibaa

namespace Go.Proofs.Ytiilkiggfjpibaa
open Go.RowKit LK
set_option linter.unusedVariables false
set_option linter.unusedSimpArgs false
def isTwo (B : Nat) (xs : List Int) (v : Value) (w : World) : Prop := ∃ g, v = .slice (some ⟨g, 0, none⟩) 2 2 ∧ w.ownsRow B 5 1 v 2 (xs.map (Value.int .u8))
theorem mono_two (B : Nat) (xs : List Int) : Ri.Mono (isTwo B xs) := fun _ _ _ ⟨g, h, k⟩ hq => ⟨g, h, own_q k hq⟩
/-- append of bytes to a row of bytes -/
theorem wpList_app8 {w : World} {B : Nat} {ops : Array Oper} {rest : List Oper} {o : Oper} {a : Act} {Q' : Exit → Act → World → Prop} {v : Value} {xs : List Int} {l : SlV Int} (hgd : o.guard = none) (s x : Operand)
    (ho : o.op = .call { callee := .builtin .append, args := #[s, x], argTypes := #[30, 30] }) (hs : a.eval s = v) (hown : isOwn B xs v w) (hx : a.eval x = l.val) (hb : B8 w l) (hm : xs.length + l.xs.length ≤ 100000) (hbase : B ≤ w.heap.size)
    (h : ∀ v' w', isOwn B (xs ++ l.xs) v' w' → Below B w w' → wpList Try.prog ops Q' rest (a.put o.dst v') w') : wpList Try.prog ops Q' (o :: rest) a w := by
  obtain ⟨A, n, c, ys⟩ := l
  have hl := hb.sl.len
  dsimp only at hl hm h
  refine wpList_apps hgd El_u8 s x ho hs hown hx hb.nil_ ?_ hb.sl.rd (one_cell one_b8 _) ?_ hbase (fun v' w' h1 h2 => h v' w' ?_ h2)
  · rw [flatMap_length (k := 1) (fun _ => rfl), hb.sl.len]
  · dsimp only; omega
  · rw [flat8] at h1
    unfold isOwn
    rw [List.length_append, List.map_append, hl]
    exact h1
theorem wpList_app81 {w : World} {B : Nat} {ops : Array Oper} {rest : List Oper} {o : Oper} {a : Act} {Q' : Exit → Act → World → Prop} {v : Value} {xs : List Int} {b : Int} (hgd : o.guard = none) (s x : Operand)
    (ho : o.op = .call { callee := .builtin .append, args := #[s, x], argTypes := #[30, 30] }) (hs : a.eval s = v) (hown : isOwn B xs v w) {k : Nat} (hk : k = w.heap.size) (hx : a.eval x = .slice (some ⟨k, 0, none⟩) 1 1) (hm : xs.length ≤ 100000) (hbase : B ≤ w.heap.size)
    (h : ∀ v' w', isOwn B (xs ++ [b]) v' w' → Below B w w' → wpList Try.prog ops Q' rest (a.put o.dst v') w') : wpList Try.prog ops Q' (o :: rest) a (w.alloc (.cells #[.int .u8 b] 5)) := by
  refine wpList_app1 hgd El_u8 s x ho hs hown hk hx rfl (fun u hu => by simp at hu; subst hu; rfl) (by omega) hbase (fun v' w' h1 h2 => h v' w' ?_ h2)
  unfold isOwn
  rw [List.length_append, List.map_append]
  exact h1
theorem own_up {B : Nat} {xs : List Int} {v : Value} {w w' : World} (h : isOwn B xs v w) (hq : Q w w') : isOwn B xs v w' := own_q h hq
set_option maxRecDepth 100000 in
set_option maxHeartbeats 4000000 in
theorem rEncode_any (o : OV) (w : World) (hO : ObR w o) : Calls Try.prog 30 #[obV o] w fun e w' => ∃ v, e = .returned (.tuple #[v, .int .i64 (o.valid : Nat)]) ∧ w'.ownsRow w.heap.size 5 1 v (encR o).length ((encR o).map (Value.int .u8)) ∧ Q w w' := by
  have hfit := Fit.of hO
  have HO := hide hO
  have HVA := hide (rValidate_any o.1.A o.1.n o.1.c o.2.1.A o.2.1.n o.2.1.c o.2.1.xs o.2.2.A o.2.2.n o.2.2.c o.2.2.xs)
  have hl0 := hO.b.len
  have hl1 := hO.s.len
  have hl2 := hO.t.len
  obtain ⟨⟨A0, n0, c0, bs⟩, ⟨A1, n1, c1, ss⟩, ⟨A2, n2, c2, ws⟩⟩ := o
  dsimp only at hfit hl0 hl1 hl2 HVA
  unfold obV SlV.val
  dsimp only
  clear hO
  obtain ⟨w2, hw2⟩ : ∃ w2, w.alloc (.cells #[.slice A0 n0 c0, .slice A1 n1 c1, .slice A2 n2 c2] 34) = w2 := ⟨_, rfl⟩
  have hq2 : Q w w2 := by rw [← hw2]; exact (Q.refl w).alloc _
  have hs2 : w2.heap.size = w.heap.size + 1 := by rw [← hw2]; simp
  have k0 : w2.cell? ⟨w.heap.size, 0, none⟩ = some (.slice A0 n0 c0) := by rw [← hw2]; simp
  have k1 : w2.cell? ⟨w.heap.size, 1, none⟩ = some (.slice A1 n1 c1) := by rw [← hw2]; simp
  have k2 : w2.cell? ⟨w.heap.size, 2, none⟩ = some (.slice A2 n2 c2) := by rw [← hw2]; simp
  have HW2 := hide hw2
  clear hw2
  have HVC := hide (HVA.out w2 (HO.out.up hq2).s (HO.out.up hq2).t HO.out.sok HO.out.tok)
  obtain ⟨vd, hvd⟩ : ∃ vd, validF n0 ss ws = vd := ⟨_, rfl⟩
  rw [hvd] at HVC
  have hvd2 : OV.valid (⟨A0, n0, c0, bs⟩, ⟨A1, n1, c1, ss⟩, ⟨A2, n2, c2, ws⟩) = vd := hvd
  rw [hvd2] at hfit ⊢
  clear hvd
  go_enter Try.func30, Try.ntmps30
  go_wp2_with fail
  rw [HW2.out]
  go_wp2_with fail
  refine HVC.out.mono ?_
  rintro e w3 ⟨rfl, hq3⟩
  rcases Nat.eq_zero_or_pos vd with h0 | h0
  · have hd : ((vd : Int) != 0) = false := by rw [h0]; rfl
    have HF := hide (hfit h0)
    have HE := hide (show encR (⟨A0, n0, c0, bs⟩, ⟨A1, n1, c1, ss⟩, ⟨A2, n2, c2, ws⟩) = encL bs ss ws by unfold encR; rw [hvd2, if_pos h0])
    have hn0 : n0 ≤ 512 := by have := HF.out.b; omega
    have hn1 : n1 ≤ 16 := by have := HF.out.s; omega
    have hn2 : n2 ≤ 16 := by have := HF.out.w; omega
    have hn1i : (n1 : Int) ≤ 16 := by omega
    have hn2i : (n2 : Int) ≤ 16 := by omega
    have k0 := (hq3.facts.1 _ 0 (show w.heap.size < w2.heap.size by omega)).trans k0
    have k1 := (hq3.facts.1 _ 1 (show w.heap.size < w2.heap.size by omega)).trans k1
    have k2 := (hq3.facts.1 _ 2 (show w.heap.size < w2.heap.size by omega)).trans k2
    have hs3 : w.heap.size < w3.heap.size := by have := hq3.size; omega
    have HQ3 := hide (hq2.trans hq3)
    have HL := hide (And.intro hl0 (And.intro hl1 hl2))
    have H0 := hide h0
    clear hfit hvd2 hq3 h0 hl0 hl1 hl2
    go_wp2_with fail
    clear hd
    have hq2 := HQ3.out
    have hs2 : w.heap.size < w3.heap.size := hs3
    refine Ri.madeL [(fun v _ => v = .pointer (some ⟨w.heap.size, 0, none⟩)), (fun v _ => v = .slice A0 n0 c0), (fun v _ => v = .int .i64 (n0 : Nat)), isTwo w3.heap.size (twoL n0), (fun v _ => v = .pointer (some ⟨w.heap.size, 0, none⟩)), (fun v _ => v = .slice A0 n0 c0), isOwn w3.heap.size (twoL n0 ++ bs), isOwn w3.heap.size (twoL n0 ++ bs)] (by kernel_rfl) (by kernel_rfl) ⟨Ri.Mono.is _, Ri.Mono.is _, Ri.Mono.is _, mono_two _ _, Ri.Mono.is _, Ri.Mono.is _, mono_own _ _, mono_own _ _, trivial⟩ ?_ ?_
    · refine Ri.All.cons ?_ (Ri.All.cons ?_ (Ri.All.cons ?_ (Ri.All.cons ?_ (Ri.All.cons ?_ (Ri.All.cons ?_ (Ri.All.cons ?_ (Ri.All.cons ?_ Ri.All.nil)))))))
      · refine ⟨rfl, fun f W hq hf X hA hB hO => ?_⟩
        exact Ri.wp_field (f := _) rfl ((hB 1 (by kernel_rfl)).trans (show _ = Value.pointer (some ⟨w.heap.size, 0, none⟩) by simp [Act.eval])) Try.underlying34 rfl (sz := 0) (by kernel_rfl) rfl
      · refine ⟨rfl, fun f W hq hf X hA hB hO => ?_⟩
        exact Ri.wp_load1 rfl ((hA 13 0 (by kernel_rfl) (by simp)).trans (hf 0 (by kernel_rfl))) Try.underlying30 rfl ((hq.facts.1 w.heap.size _ (show _ < w3.heap.size by omega)).trans (show w3.cell? _ = _ from k0)) rfl
      · refine ⟨rfl, fun f W hq hf X hA hB hO => ?_⟩
        exact Ri.wp_len rfl ((hA 14 1 (by kernel_rfl) (by simp)).trans (hf 1 (by kernel_rfl))) Try.underlying30 rfl
      · refine ⟨rfl, fun f W hq hf X hA hB hO => ?_⟩
        have a0 := ((hA 15 2 (by kernel_rfl) (by simp)).trans (hf 2 (by kernel_rfl)))
        refine Ri.wp_call #[.int .i64 n0] rfl (by simp [a0]) Try.func67 (by kernel_rfl) rfl ((rtwo_wr2 n0 W (by omega) (by omega)).mono fun e W2 hc => ?_)
        obtain ⟨rfl, ho2, hq2'⟩ := hc
        have h9 : w3.heap.size ≤ W.heap.size := hq.size
        exact ⟨_, rfl, hq2', _, rfl, own_lower ho2 h9⟩
      · refine ⟨rfl, fun f W hq hf X hA hB hO => ?_⟩
        exact Ri.wp_field (f := _) rfl ((hB 1 (by kernel_rfl)).trans (show _ = Value.pointer (some ⟨w.heap.size, 0, none⟩) by simp [Act.eval])) Try.underlying34 rfl (sz := 0) (by kernel_rfl) rfl
      · refine ⟨rfl, fun f W hq hf X hA hB hO => ?_⟩
        exact Ri.wp_load1 rfl ((hA 17 4 (by kernel_rfl) (by simp)).trans (hf 4 (by kernel_rfl))) Try.underlying30 rfl ((hq.facts.1 w.heap.size _ (show _ < w3.heap.size by omega)).trans (show w3.cell? _ = _ from k0)) rfl
      · refine ⟨rfl, fun f W hq hf X hA hB hO => ?_⟩
        obtain ⟨g3, e3, ho3⟩ := hf 3 (by kernel_rfl)
        have E3 := (hA 16 3 (by kernel_rfl) (by simp)).trans e3
        have E5 := ((hA 18 5 (by kernel_rfl) (by simp)).trans (hf 5 (by kernel_rfl)))
        rw [e3] at ho3
        have h9 : w3.heap.size ≤ W.heap.size := hq.size
        have hB5 : B8 W ⟨A0, n0, c0, bs⟩ := ⟨HO.out.b.up (hq2.drew.trans hq), HO.out.bn⟩
        exact Ri.wp_append_full El_u8 _ _ rfl E3 E5 ho3 (src_of (l := ⟨A0, n0, c0, bs⟩) Try.underlying30 hB5) (by dsimp only; omega) h9 (fun v w' h => by
          have hbl := HL.out.1
          show w'.ownsRow _ _ _ _ _ _
          rw [List.length_append, List.map_append, hbl]
          exact h)
      · refine ⟨rfl, fun f W hq hf X hA hB hO => ?_⟩
        exact Ri.wp_assign rfl (hA 19 6 (by kernel_rfl) (by simp)) (hf 6 (by kernel_rfl))
    · intro f w4 hq4 hf
      have hV4 : isOwn w3.heap.size (twoL n0 ++ bs) (f 7) w4 := hf 7 (by simp)
      obtain ⟨v4, hv4⟩ : ∃ v4, f 7 = v4 := ⟨_, rfl⟩
      rw [hv4] at hV4
      simp only [Ri.acts, Act.put]
      rw [hv4]
      have K1 := hide k1
      have K2 := hide k2
      have k1 := (hq4.facts.1 _ 1 hs3).trans k1
      have hs4 : w.heap.size < w4.heap.size := by have := hq4.size; omega
      have HQ4 := hide hq4
      have HV4 := hide hV4
      have hb4 := HL.out.1
      have htl : (twoL n0 ++ bs).length ≤ 514 := by rw [List.length_append, hb4]; simp [twoL]; omega
      clear hf k0 k2 hq4 hV4 hv4 hb4
      go_wp2_with (at_builtin; go_loud (refine wpList_app81 rfl _ _ rfl rfl HV4.out rfl rfl ?_ ?_ ?_; (focus omega); (focus (exact HQ4.out.size)); intro v5 w5 hvn hbn; have HV5 := hide hvn; have HQ5 := hide (show Q w3 w5 from HQ4.out.below.trans hbn); clear hvn hbn; have k1 := (HQ5.out.facts.1 _ 1 hs3).trans K1.out; have hs5 : w.heap.size < w5.heap.size := by have := HQ5.out.size; omega))
      clear k1
      go_loopw [5, 6] (fun v vi wr => ∃ k : Nat, k ≤ n1 ∧ vi = .int .i64 k ∧ Q w3 wr ∧ isOwn w3.heap.size (twoL n0 ++ bs ++ oneL n1 ++ (ss.take k).flatMap symL) v wr) (fun _ vi _ => n1 - (intOf vi).toNat)
      case atStart => exact ⟨0, by omega, by go_num, HQ5.out, by have h := HV5.out; exact (show oneL (n1 : Int) = [(n1 : Int)] by (simp [oneL]; omega)) ▸ (by simpa using h)⟩
      case round =>
        obtain ⟨k, hk, rfl, hq, hV⟩ := hrel
        obtain ⟨V, hVe⟩ : ∃ V, V = u5 := ⟨_, rfl⟩
        rw [← hVe] at hV ⊢
        clear hVe
        have HQR := hide hq
        have hszk : w.heap.size < wr.heap.size := by have := hq.size; omega
        have k1 := (hq.facts.1 _ 1 hs3).trans K1.out
        clear hq
        have hfl : ((ss.take k).flatMap symL).length ≤ 176 := by
          have a := flat_len (f := symL) (m := 11) (xs := ss.take k) (fun x hx => by have := HF.out.sa x (List.mem_of_mem_take hx); rw [symL_len]; omega)
          rw [List.length_take] at a
          have b := HF.out.s
          omega
        by_cases hlt : k < n1
        · have hd1 : decide ((k : Int) < (n1 : Int)) = true := by simp; omega
          have hd0 : decide (k < n1) = true := by simp; omega
          have hlti : (k : Int) < (n1 : Int) := by omega
          obtain ⟨b1, o1, nm, at_, e1, hb1, g1, x1, x2⟩ := (HO.out.up HQ3.out).s.sym k hlt
          dsimp only at e1 g1
          subst e1
          obtain ⟨z0, z1, z2⟩ := HF.out.sa _ (List.mem_of_getElem? g1)
          dsimp only at z0 z1 z2
          have HSL := hide (show (ss.take k).flatMap symL ++ symL (nm, at_) = (ss.take (k + 1)).flatMap symL by rw [List.take_add_one, g1, Option.toList_some, List.flatMap_append]; simp)
          obtain ⟨L, hL⟩ : ∃ L, twoL n0 ++ bs ++ oneL n1 ++ (ss.take k).flatMap symL = L := ⟨_, rfl⟩
          have hLl : L.length ≤ 1000 := by
            rw [← hL, List.length_append, List.length_append]
            simp only [oneL, List.length_cons, List.length_nil]
            omega
          have HLL := hide hL
          rw [hL] at hV
          have HV := hide hV
          have HN := hide (fun W => own_call (rnamed_wr nm W (by omega)))
          have HT := hide (fun W => own_call (rtwo_wr at_ W (by omega) (by omega)))
          have X1 := hide x1
          have X2 := hide x2
          have x1 := (HQR.out.facts.1 _ _ hb1).trans X1.out
          have hbw : b1 < wr.heap.size := by have := HQR.out.size; omega
          clear hV hL g1 x2 hfl
          go_wp2_with fail
          refine (HN.out wr).mono ?_
          rintro e w6 ⟨v6, rfl, hq6, l6, rfl, x6, b6⟩
          have HQ6 := hide (HQR.out.trans hq6)
          have HV6 := hide (own_up HV.out hq6)
          have HB6 := hide b6
          have hx6 : l6.xs.length ≤ 9 := by rw [x6, namedL_len]; omega
          have HX6 := hide x6
          obtain ⟨l6A, l6n, l6c, l6x⟩ := l6
          unfold SlV.val
          dsimp only at hx6 HX6 ⊢
          clear hq6 b6 x6 x1 k1
          go_wp2_with (at_builtin; go_loud (refine wpList_app8 rfl _ _ rfl rfl HV6.out rfl HB6.out ?_ ?_ ?_; (focus (dsimp only; omega)); (focus (exact HQ6.out.size)); intro v7 w7 hvn hbn; have HV7 := hide hvn; have HQ7 := hide (show Q w3 w7 from HQ6.out.below.trans hbn); clear hvn hbn; have k1 := (HQ7.out.facts.1 _ 1 hs3).trans K1.out; have x2 := (HQ7.out.facts.1 _ _ hb1).trans X2.out; have hs7 : w.heap.size < w7.heap.size := (by (have := HQ7.out.size; omega)); have hbw7 : b1 < w7.heap.size := (by (have := HQ7.out.size; omega))))
          refine (HT.out w7).mono ?_
          rintro e w8 ⟨v8, rfl, hq8, l8, rfl, x8, b8⟩
          have HQ8 := hide (HQ7.out.trans hq8)
          have HV8 := hide (own_up HV7.out hq8)
          have HB8 := hide b8
          have hx8 : l8.xs.length ≤ 2 := by rw [x8]; simp [twoL]
          have HX8 := hide x8
          obtain ⟨l8A, l8n, l8c, l8x⟩ := l8
          unfold SlV.val
          dsimp only at hx8 HX8 ⊢
          clear hq8 b8 x8 x2 k1
          go_wp2_with (at_builtin; go_loud (refine wpList_app8 rfl _ _ rfl rfl HV8.out rfl HB8.out ?_ ?_ ?_; (focus (simp only [List.length_append]; omega)); (focus (exact HQ8.out.size)); intro v9 w9 hvn hbn; have HV9 := hide hvn; have HQ9 := hide (show Q w3 w9 from HQ8.out.below.trans hbn); clear hvn hbn))
          go_roundw
          case rel => exact ⟨k + 1, by omega, by go_num, HQ9.out, by
            have h := HV9.out
            rw [show L ++ l6x ++ l8x = twoL n0 ++ bs ++ oneL n1 ++ (ss.take (k + 1)).flatMap symL by rw [← HSL.out, ← HLL.out, HX6.out, HX8.out]; simp [symL]] at h
            exact h⟩
          case measure => simp [intOf] <;> omega
        · have hd1 : decide ((k : Int) < (n1 : Int)) = false := by simp; omega
          have hd0 : decide (k < n1) = false := by simp; omega
          obtain rfl : k = n1 := by omega
          have hse : ss.take k = ss := List.take_of_length_le (by have := HL.out.2.1; omega)
          rw [hse] at hV hfl
          obtain ⟨L, hL⟩ : ∃ L, twoL n0 ++ bs ++ oneL k ++ ss.flatMap symL = L := ⟨_, rfl⟩
          have hLl : L.length ≤ 1000 := by
            rw [← hL, List.length_append, List.length_append]
            simp only [oneL, List.length_cons, List.length_nil]
            omega
          rw [hL] at hV
          have HLL := hide hL
          have HV := hide hV
          have k2 := (HQR.out.facts.1 _ 2 hs3).trans K2.out
          clear hV hse hL hfl
          go_wp2_with (at_builtin; go_loud (refine wpList_app81 rfl _ _ rfl rfl HV.out rfl rfl ?_ ?_ ?_; (focus omega); (focus (exact HQR.out.size)); intro v9 w9 hvn hbn; have HV9 := hide hvn; have HQ9 := hide (show Q w3 w9 from HQR.out.below.trans hbn); clear hvn hbn; have k2 := (HQ9.out.facts.1 _ 2 hs3).trans K2.out; have hs9 : w.heap.size < w9.heap.size := (by (have := HQ9.out.size; omega))))
          clear k1 k2 hd1 hd0
          go_loopw [5, 7] (fun v vi wr => ∃ j : Nat, j ≤ n2 ∧ vi = .int .i64 j ∧ Q w3 wr ∧ isOwn w3.heap.size (L ++ oneL n2 ++ (ws.take j).flatMap wntL) v wr) (fun _ vi _ => n2 - (intOf vi).toNat)
          case atStart => exact ⟨0, by omega, by go_num, HQ9.out, by have h := HV9.out; exact (show oneL (n2 : Int) = [(n2 : Int)] by (simp [oneL]; omega)) ▸ (by simpa using h)⟩
          case round =>
            obtain ⟨j, hj, rfl, hq, hV⟩ := hrel
            obtain ⟨V, hVe⟩ : ∃ V, V = u5 := ⟨_, rfl⟩
            rw [← hVe] at hV ⊢
            clear hVe
            have HQR := hide hq
            have hszk : w.heap.size < wr.heap.size := by have := hq.size; omega
            have k2 := (hq.facts.1 _ 2 hs3).trans K2.out
            clear hq
            by_cases hlt2 : j < n2
            · have hd1 : decide ((j : Int) < (n2 : Int)) = true := by simp; omega
              have hd0 : decide (j < n2) = true := by simp; omega
              have hlti : (j : Int) < (n2 : Int) := by omega
              obtain ⟨b1, o1, at_, kd, nm, e1, hb1, g1, x1, x2, x3⟩ := (HO.out.up HQ3.out).t.wnt j hlt2
              dsimp only at e1 g1
              subst e1
              obtain ⟨z0, z1, z2, z3, z4⟩ := HF.out.wa _ (List.mem_of_getElem? g1)
              dsimp only at z0 z1 z2 z3 z4
              have HSL := hide (show (ws.take j).flatMap wntL ++ wntL (at_, kd, nm) = (ws.take (j + 1)).flatMap wntL by rw [List.take_add_one, g1, Option.toList_some, List.flatMap_append]; simp)
              obtain ⟨L2, hL2⟩ : ∃ L2, L ++ oneL n2 ++ (ws.take j).flatMap wntL = L2 := ⟨_, rfl⟩
              have hLl2 : L2.length ≤ 2000 := by
                have a := flat_len (f := wntL) (m := 12) (xs := ws.take j) (fun x hx => by have := HF.out.wa x (List.mem_of_mem_take hx); rw [wntL_len]; omega)
                rw [List.length_take] at a
                rw [← hL2]
                simp only [List.length_append, oneL, List.length_cons, List.length_nil]
                omega
              have HLL2 := hide hL2
              rw [hL2] at hV
              have HV := hide hV
              have HN := hide (fun W => own_call (rnamed_wr nm W (by omega)))
              have HT := hide (fun W => own_call (rtwo_wr at_ W (by omega) (by omega)))
              have X1 := hide x1
              have X3 := hide x3
              have x2 := (HQR.out.facts.1 _ _ hb1).trans x2
              have hbw : b1 < wr.heap.size := by have := HQR.out.size; omega
              clear hV hL2 g1 x1 x3
              go_wp2_with (at_builtin; go_loud (refine wpList_app81 rfl _ _ rfl rfl HV.out rfl rfl ?_ ?_ ?_; (focus omega); (focus (exact HQR.out.size)); intro v5 w5 hvn hbn; have HV5 := hide hvn; have HQ5 := hide (show Q w3 w5 from HQR.out.below.trans hbn); clear hvn hbn; have k2 := (HQ5.out.facts.1 _ 2 hs3).trans K2.out; have x3 := (HQ5.out.facts.1 _ _ hb1).trans X3.out; have hs5 : w.heap.size < w5.heap.size := (by (have := HQ5.out.size; omega)); have hbw5 : b1 < w5.heap.size := (by (have := HQ5.out.size; omega))))
              refine (HN.out w5).mono ?_
              rintro e w6 ⟨v6, rfl, hq6, l6, rfl, x6, b6⟩
              have HQ6 := hide (HQ5.out.trans hq6)
              have HV6 := hide (own_up HV5.out hq6)
              have HB6 := hide b6
              have hx6 : l6.xs.length ≤ 9 := by rw [x6, namedL_len]; omega
              have HX6 := hide x6
              obtain ⟨l6A, l6n, l6c, l6x⟩ := l6
              unfold SlV.val
              dsimp only at hx6 HX6 ⊢
              clear hq6 b6 x6 x2 x3 k2
              go_wp2_with (at_builtin; go_loud (refine wpList_app8 rfl _ _ rfl rfl HV6.out rfl HB6.out ?_ ?_ ?_; (focus (simp only [List.length_append, List.length_cons, List.length_nil]; omega)); (focus (exact HQ6.out.size)); intro v7 w7 hvn hbn; have HV7 := hide hvn; have HQ7 := hide (show Q w3 w7 from HQ6.out.below.trans hbn); clear hvn hbn; have k2 := (HQ7.out.facts.1 _ 2 hs3).trans K2.out; have x1 := (HQ7.out.facts.1 _ _ hb1).trans X1.out; have hs7 : w.heap.size < w7.heap.size := (by (have := HQ7.out.size; omega)); have hbw7 : b1 < w7.heap.size := (by (have := HQ7.out.size; omega))))
              refine (HT.out w7).mono ?_
              rintro e w8 ⟨v8, rfl, hq8, l8, rfl, x8, b8⟩
              have HQ8 := hide (HQ7.out.trans hq8)
              have HV8 := hide (own_up HV7.out hq8)
              have HB8 := hide b8
              have hx8 : l8.xs.length ≤ 2 := by rw [x8]; simp [twoL]
              have HX8 := hide x8
              obtain ⟨l8A, l8n, l8c, l8x⟩ := l8
              unfold SlV.val
              dsimp only at hx8 HX8 ⊢
              clear hq8 b8 x8 x1 k2
              go_wp2_with (at_builtin; go_loud (refine wpList_app8 rfl _ _ rfl rfl HV8.out rfl HB8.out ?_ ?_ ?_; (focus (simp only [List.length_append, List.length_cons, List.length_nil]; omega)); (focus (exact HQ8.out.size)); intro v9 w9 hvn hbn; have HV9 := hide hvn; have HQ9 := hide (show Q w3 w9 from HQ8.out.below.trans hbn); clear hvn hbn))
              go_roundw
              case rel => exact ⟨j + 1, by omega, by go_num, HQ9.out, by
                have h := HV9.out
                rw [show L2 ++ [kd] ++ l6x ++ l8x = L ++ oneL n2 ++ (ws.take (j + 1)).flatMap wntL by rw [← HSL.out, ← HLL2.out, HX6.out, HX8.out]; simp only [wntL, show oneL kd = [kd] by (simp [oneL]; omega), List.append_assoc]] at h
                exact h⟩
              case measure => simp [intOf] <;> omega
            · have hd1 : decide ((j : Int) < (n2 : Int)) = false := by simp; omega
              have hd0 : decide (j < n2) = false := by simp; omega
              obtain rfl : j = n2 := by omega
              have hse : ws.take j = ws := List.take_of_length_le (by have := HL.out.2.2; omega)
              rw [hse] at hV
              have HR := hide (show L ++ oneL j ++ ws.flatMap wntL = encL bs ss ws by rw [← HLL.out]; unfold encL; rw [HL.out.1, HL.out.2.1, HL.out.2.2])
              rw [HR.out] at hV
              have HV := hide (own_lower hV HQ3.out.size)
              clear hV hse
              go_wp2_with fail
              go_ret2
              exact ⟨_, by rw [H0.out]; rfl, by rw [HE.out]; exact HV.out, HQ3.out.trans HQR.out⟩
  · have hd : ((vd : Int) != 0) = true := by simp; omega
    have HE := hide (show encR (⟨A0, n0, c0, bs⟩, ⟨A1, n1, c1, ss⟩, ⟨A2, n2, c2, ws⟩) = [] by unfold encR; rw [hvd2, if_neg (by omega)])
    clear hfit hvd2
    go_wp2_with fail
    go_ret2
    exact ⟨_, rfl, by rw [HE.out]; exact World.ownsRow_nil _ _ _ _, hq2.trans hq3⟩
end Go.Proofs.Ytiilkiggfjpibaa
