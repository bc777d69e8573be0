/- The walks of the reference's bits: digits, the number of bits, bit by bit. Conditions: as each theorem says. -/
import Derived.Test.YtcjljmegppnlcaaNumR
import Derived.Test.YtcjljmegppnlcaaMem
namespace Go.Proofs.Ytcjljmegppnlcaa
open Go.RowKit NP
set_option linter.unusedVariables false

/-- the first k bits of a number -/
def bitsL (k : Nat) (x : Int) : List Int := (List.range k).map fun i => x / 2 ^ i % 2
theorem bitsL_succ (k : Nat) (x : Int) : bitsL (k + 1) x = bitsL k x ++ [x / 2 ^ k % 2] := by
  unfold bitsL; rw [List.range_succ, List.map_append]; rfl
theorem bitsL_length (k : Nat) (x : Int) : (bitsL k x).length = k := by simp [bitsL]
theorem div_step (x : Int) (k : Nat) : x / 2 ^ k / 2 = x / 2 ^ (k + 1) := by
  rw [Int.pow_succ, Int.ediv_ediv_of_nonneg (Int.le_of_lt (Int.pow_pos (by omega)))]
def adj (b x : Int) : Int := if x < 0 then x + p2 b else x
theorem adj_bd (s : Bool) (b x : Int) (h1 : 1 ≤ b) (h2 : b ≤ 31) (h : fitsB s b x = true) : 0 ≤ adj b x ∧ adj b x < p2 b := by
  have hb := p2_bd b h1 h2
  unfold fitsB lo hi at h
  unfold adj
  cases s <;> simp at h <;> split <;> omega
theorem info_int : (Try.prog.info? 3).map (fun i => (i.zero, i.size, i.bytes)) = some (some (.int .i64 0), 1, 8) := by kernel_rfl

theorem digits_any (s : Bool) (b x : Int) (w : World) (h1 : 1 ≤ b) (h2 : b ≤ 31) (hx : fitsB s b x = true) :
    Calls Try.prog 62 #[.agg #[.bool s, .int .i64 b], .int .i64 x] w
      fun e w' => ∃ v, e = .returned v ∧ w'.ownsRow w.heap.size 3 1 v b.toNat ((bitsL b.toNat (adj b x)).map (.int .i64)) ∧ Q w w' := by
  obtain ⟨a1, a2⟩ := adj_bd s b x h1 h2 hx
  obtain ⟨x1, x2⟩ := fitsB_bd h1 h2 hx
  have p3 := p2_le b h2
  have p4 := p2_pos b
  obtain ⟨i0, hi0, hz0, hz1, hz2⟩ := i64_info_parts info_int
  have HI := hide hi0
  have HZ0 := hide hz0
  have HZ1 := hide hz1
  have HZ2 := hide hz2
  clear hi0 hz0 hz1 hz2 hx
  generalize hX : adj b x = X at *
  have hs : (if x < 0 then x + p2 b else x) = X := hX
  clear hX
  by_cases hn : x < 0
  all_goals
    simp only [hn, if_true, if_false] at hs
    have HS := hide hs
    clear hs
    go_enter Try.func62, Try.ntmps62
    go_wp2_with (first | (go_at_call 66; refine (span_any _ _ _ h1 h2).mono ?_; rintro e w1 ⟨rfl, hq1⟩; obtain ⟨hc1, hf1, hz1⟩ := hq1.facts; try simp at hz1; try have hs01 : w.heap.size < w1.heap.size := by omega; try have hs11 : w.heap.size + 1 < w1.heap.size := by omega))
    go_loopw [1, 5, 6] (fun n v i wr => ∃ k : Nat, (k : Int) ≤ b ∧ i = .int .i64 k ∧ n = .int .i64 (X / 2 ^ k) ∧ wr.ownsRow (w.heap.size + 1) 3 1 v k ((bitsL k X).map (.int .i64)) ∧
      wr.cell? ⟨w.heap.size, 1, none⟩ = some (.int .i64 b) ∧ Q w wr ∧ w.heap.size + 1 ≤ wr.heap.size) (fun _ _ i _ => (b - intOf i).toNat)
    case atStart =>
      refine ⟨0, by omega, rfl, by rw [← HS.out]; simp, World.ownsRow_nil _ _ _ _, ?_, (by repeat (first | exact Q.refl _ | assumption | refine Q.drew ?_ | refine Q.drewN ?_ _ | refine Q.alloc ?_ _ | refine Q.set ?_ (by first | (simp; done) | (simp; omega) | omega) _ | refine Q.trans ?_ (by assumption))), ?_⟩
      · first | (go_simp; done) | (simp [*]; done)
      · first | omega | (simp; done)
    case round =>
      obtain ⟨k, hk, rfl, rfl, hown, hcb, hq, hz⟩ := hrel
      have hpk : (0 : Int) < 2 ^ k := Int.pow_pos (by omega)
      have g1 : 0 ≤ X / 2 ^ k := Int.ediv_nonneg a1 (by omega)
      have g2 : X / 2 ^ k ≤ X := Int.ediv_le_self _ a1
      have hd := div_step X k
      have HD := hide hd
      have hL := bitsL_succ k X
      have HL := hide hL
      generalize hY : X / 2 ^ k = Y at *
      have HY := hide hY
      clear hd hL hY hpk
      by_cases hlt : (k : Int) < b
      · go_wp2_with (at_builtin; refine wpList_append_own _ rfl _ _ 63 rfl (w.heap.size + 1) 3 i0 (.int .i64 0) 1 8 Try.underlying63 HI.out HZ0.out HZ1.out HZ2.out rfl (by decide) _ _ _ rfl ((hown).alloc _) ⟨wr.heap.size, 0, none⟩ 1 1 [.int .i64 (Y % 2)] rfl rfl ?_ ?_ ?_ ?_ ?_ ?_; exact (cell_one_new _ _ _); (focus (simp [Value.oneCell'])); (focus (simp only [maxLen]; omega)); (focus omega); (focus (simp; omega)); intro v1 w1 hown1 hgr1 hne1; clear hne1; have hb1 := below_app (hown) hgr1 (by omega))
        have hcb1 : w1.cell? ⟨w.heap.size, 1, none⟩ = some (.int .i64 b) := (hb1.cell (p := ⟨w.heap.size, 1, none⟩) (by simp)).trans hcb
        have hq1 := q_below hq hb1 (by omega)
        have hz1 := hb1.size
        clear hcb hown hgr1
        go_wp2_with fail
        go_roundw
        case rel => exact ⟨k + 1, by omega, by go_num, by rw [← HD.out], by rw [HL.out, List.map_append]; exact hown1, hcb1, hq1, by omega⟩
        case measure => simp [intOf]; omega
      · have ek : k = b.toNat := by omega
        go_wp2_with fail
        go_ret
        refine ⟨_, rfl, ?_, hq⟩
        rw [← ek]
        exact hown.mono (by omega)

/-- the number with some bits -/
def numL (l : List Int) : Int := l.foldr (fun d a => 2 * a + d) 0
theorem numL_drop (l : List Int) (j : Nat) (h : j < l.length) : numL (l.drop j) = 2 * numL (l.drop (j + 1)) + l[j] := by
  rw [List.drop_eq_getElem_cons h]; rfl
theorem numL_bd (l : List Int) (h : ∀ d ∈ l, 0 ≤ d ∧ d ≤ 1) : 0 ≤ numL l ∧ numL l < 2 ^ l.length := by
  induction l with
  | nil => simp [numL]
  | cons d l ih =>
    have h1 := ih (fun x hx => h x (List.mem_cons_of_mem _ hx))
    have h2 := h d (List.mem_cons_self ..)
    have e : numL (d :: l) = 2 * numL l + d := rfl
    rw [e, List.length_cons, Int.pow_succ]
    omega
theorem pow31 (n : Nat) (h : n ≤ 31) : (2 : Int) ^ n ≤ 2147483648 := by
  have := p2_le (n : Int) (by omega)
  simpa [p2] using this
theorem number_any (s : Bool) (b : Int) (A : Option Addr) (n c : Nat) (l : List Int) (w : World) (h1 : 1 ≤ b) (h2 : b ≤ 31) (hr : Rd w w.heap.size A (l.map (.int .i64)))
    (hl : l.length = n) (hn : n ≤ 31) (hb : ∀ d ∈ l, 0 ≤ d ∧ d ≤ 1) :
    Calls Try.prog 79 #[.agg #[.bool s, .int .i64 b], .slice A n c] w fun e w' => e = .returned (.int .i64 (wrapS s b (numL l))) ∧ Q w w' := by
  subst hl
  have hrb : ∀ (j : Nat), j < l.length → ∃ bb o, A = some ⟨bb, o, none⟩ ∧ bb < w.heap.size ∧ w.cell? ⟨bb, o + j, none⟩ = some (.int .i64 (l.getD j 0)) := by
    intro j hj
    obtain ⟨bb, o, e, hlt, hc⟩ := hr.at_ (by simpa using by omega)
    exact ⟨bb, o, e, hlt, by rw [hc j (by simpa using hj)]; simp [hj]⟩
  have HR := hide hrb
  clear hr hrb
  have HB := hide hb
  clear hb
  have hlen : (l.length : Int) ≤ 31 := by omega
  generalize hN : l.length = N at *
  go_enter Try.func79, Try.ntmps79
  go_wp2_with fail
  go_loop [5, 6] (fun v i => ∃ j : Nat, j ≤ N ∧ v = .int .i64 (numL (l.drop j)) ∧ ((j = 0 ∧ i = .int .i64 (-1)) ∨ ∃ m : Nat, j = m + 1 ∧ i = .int .i64 m)) (fun _ i => (intOf i + 1).toNat)
  case atStart =>
    refine ⟨N, Nat.le_refl _, ?_, ?_⟩
    · rw [List.drop_of_length_le (by omega)]; rfl
    · cases N with
      | zero => exact .inl ⟨rfl, by go_num⟩
      | succ m => exact .inr ⟨m, rfl, by go_num⟩
  case round =>
    obtain ⟨j, hj, rfl, h | ⟨m, rfl, rfl⟩⟩ := hrel
    · obtain ⟨rfl, rfl⟩ := h
      go_wp2_with fail
      refine (Bent_any _ _ _ _ h1 h2).mono ?_
      rintro e w1 ⟨rfl, hq1⟩
      go_wp2_with fail
      go_ret
      exact ⟨rfl, (by repeat (first | exact Q.refl _ | assumption | refine Q.drew ?_ | refine Q.drewN ?_ _ | refine Q.alloc ?_ _ | refine Q.set ?_ (by first | (simp; done) | (simp; omega) | omega) _ | refine Q.trans ?_ (by assumption)))⟩
    · obtain ⟨bb, o, rfl, hlt, hc⟩ := HR.out m (by omega)
      have hd := numL_drop l m (by omega)
      have b1 := numL_bd (l.drop (m + 1)) (fun d hd => HB.out d (List.mem_of_mem_drop hd))
      have b2 := pow31 (l.drop (m + 1)).length (by rw [List.length_drop]; omega)
      have b3 := numL_bd (l.drop m) (fun d hd => HB.out d (List.mem_of_mem_drop hd))
      have b4 := pow31 (l.drop m).length (by rw [List.length_drop]; omega)
      have b5 := HB.out l[m] (List.getElem_mem _)
      have hg : l.getD m 0 = l[m] := by simp [show m < l.length by omega]
      rw [hg] at hc
      have hfin : numL (l.drop m) = 2 * numL (l.drop (m + 1)) + l[m] := hd
      have HF := hide hfin
      obtain ⟨c1, c2⟩ := b1
      obtain ⟨c3, c4⟩ := b3
      have c5 : numL (l.drop (m + 1)) < 2147483648 := by omega
      have c6 : numL (l.drop m) < 2147483648 := by omega
      obtain ⟨c7, c8⟩ := b5
      generalize l[m] = d at *
      generalize numL (l.drop (m + 1)) = V at *
      clear hd hfin hg c2 c4 b2 b4
      go_wp2_with fail
      go_round
      case rel =>
        refine ⟨m, by omega, by rw [HF.out], ?_⟩
        cases m with
        | zero => exact .inl ⟨rfl, by go_num⟩
        | succ q => exact .inr ⟨q, rfl, by go_num⟩
      case measure => simp [intOf] <;> omega
end Go.Proofs.Ytcjljmegppnlcaa
