/- The walks of the reference's Room, starts, address, Starts, Find, Users, SameInts. Conditions: the objects read as a list. -/
import Derived.Test.YtjdioilkhbpmoaaLinkK
import Derived.Test.YtjdioilkhbpmoaaStep
namespace Go.Proofs.Ytjdioilkhbpmoaa
open Go.RowKit LK
set_option linter.unusedVariables false
set_option maxHeartbeats 1000000 in
theorem rRoom_any (A0 : Option Addr) (n0 c0 : Nat) (v1 v2 : Value) (w : World) (hn : n0 ≤ 100000) :
    Calls Try.prog 83 #[.agg #[.slice A0 n0 c0, v1, v2]] w fun e w' => e = .returned (.int .i64 (room n0 : Nat)) ∧ Q w w' := by
  have hni : (n0 : Int) ≤ 100000 := by omega
  obtain ⟨w1, hw1⟩ : ∃ w1, w.alloc (.cells #[.slice A0 n0 c0, v1, v2] 41) = w1 := ⟨_, rfl⟩
  have hq1 : Q w w1 := by rw [← hw1]; exact (Q.refl w).alloc _
  have hs1 : w.heap.size < w1.heap.size := by rw [← hw1]; simp
  have kb0 : w1.cell? ⟨w.heap.size, 0, none⟩ = some (.slice A0 n0 c0) := by rw [← hw1]; simp
  have HW1 := hide hw1
  clear hw1
  go_enter Try.func83, Try.ntmps83
  go_wp2_with fail
  rw [HW1.out]
  go_loop [3] (fun vi => ∃ k : Nat, vi = .int .i64 ((16 * k : Nat) : Int) ∧ (k = 0 ∨ 16 * (k - 1) < n0 + 8)) (fun vi => n0 + 8 - (intOf vi).toNat)
  case atStart => exact ⟨0, by go_num, .inl rfl⟩
  case round =>
    obtain ⟨k, rfl, hk⟩ := hrel
    have hkb : 16 * k ≤ n0 + 24 := by omega
    have hkbi : ((16 * k : Nat) : Int) ≤ 100024 := by omega
    obtain ⟨m, hm⟩ : ∃ m, 16 * k = m := ⟨_, rfl⟩
    rw [hm] at hkb hkbi ⊢
    have HM := hide hm
    clear hm
    by_cases hlt : m < n0 + 8
    · have d1 : decide ((m : Int) < (n0 : Int) + 8) = true := by simp; omega
      go_wp2_with fail
      go_round
      case rel => exact ⟨k + 1, by have := HM.out; show Value.int _ _ = Value.int _ _; congr 1; omega, .inr (by have := HM.out; omega)⟩
      case measure => simp [intOf]; omega
    · have d1 : decide ((m : Int) < (n0 : Int) + 8) = false := by simp; omega
      go_wp2_with fail
      go_ret
      refine ⟨ret_int ?_, hq1⟩
      have := HM.out
      unfold room
      omega
theorem startsL_get (os : List OV) (m k : Nat) (h : k < m) : (startsL os m)[k]? = some ((offF (os.take k) : Nat) : Int) := by
  unfold startsL
  simp [h]
theorem rows_get {w : World} {B g n c : Nat} {xs : List Int} (h : w.ownsRow B 3 1 (.slice (some ⟨g, 0, none⟩) n c) n (xs.map (Value.int .i64))) {k : Nat} {x : Int} (hk : xs[k]? = some x) : w.cell? ⟨g, k, none⟩ = some (.int .i64 x) := by
  have := h.cellAt k (by have h1 := h.1; have h2 := (List.getElem?_eq_some_iff.1 hk).1; simp at h1; omega)
  rw [this, List.getElem?_map, hk]
  rfl
set_option maxRecDepth 100000 in
set_option maxHeartbeats 2000000 in
theorem rstarts_any (A : Option Addr) (n c : Nat) (os : List OV) (w : World) (hO : ObsR w A n c os) (hn : n ≤ 100) (hv : ∀ o ∈ os, o.1.n ≤ 512) :
    Calls Try.prog 47 #[.slice A n c] w fun e w' => ∃ v, e = .returned v ∧ w'.ownsRow w.heap.size 3 1 v (n + 1) ((startsL os (n + 1)).map (Value.int .i64)) ∧ Q w w' := by
  have hl := hO.sl.len
  have HL := hide hl
  have HO := hide hO
  have HV := hide hv
  have HOFF := hide (fun k => offF_le hv k)
  have hni : (n : Int) ≤ 100 := by omega
  have hst : ∀ k, (startsL os k).length = k := fun k => by simp [startsL]
  have HST := hide hst
  clear hO hl hv hst
  go_enter Try.func47, Try.ntmps47
  go_wp2_with fail
  go_loopw [3, 4] (fun v vi wr => ∃ k : Nat, k ≤ n ∧ vi = .int .i64 k ∧ wr.ownsRow w.heap.size 3 1 v (k + 1) ((startsL os (k + 1)).map (Value.int .i64)) ∧ Q w wr) (fun _ vi _ => n - (intOf vi).toNat)
  case atStart => exact ⟨0, by omega, by go_num, World.ownsRow_lit w #[.int .i64 0] 1 (Nat.le_refl _) (by decide) rfl, (Q.refl w).alloc _⟩
  case round =>
    obtain ⟨k, hk, rfl, hown, hq⟩ := hrel
    have hsz := hq.size
    obtain ⟨g, cc, rfl, hg1, hg2, hg3, hg4, _, _⟩ := own_at hown (by omega)
    by_cases hlt : k < n
    · have hd1 : decide ((k : Int) < (n : Int)) = true := by simp; omega
      have hd0 : decide (k < n) = true := by simp; omega
      have hlti : (k : Int) < (n : Int) := by omega
      have hkk : (k : Int) < (k : Int) + 1 := by omega
      have hkk2 : k < k + 1 := by omega
      obtain ⟨b1, o1, ob, rfl, hbb, g1, x1, x2, x3, hob⟩ := (HO.out.up hq).at_ k hlt
      obtain ⟨⟨A0, n0, c0, bs⟩, ⟨A1, n1, c1, ss⟩, ⟨A2, n2, c2, ws⟩⟩ := ob
      have hn0 := HV.out _ (List.mem_of_getElem? g1)
      dsimp only at x1 x2 x3 hn0
      have hrm : room n0 ≤ 544 := by unfold room; omega
      have HR := hide (fun W => rRoom_any A0 n0 c0 (.slice A1 n1 c1) (.slice A2 n2 c2) W (by omega))
      obtain ⟨rm, hrme⟩ : ∃ rm, room n0 = rm := ⟨_, rfl⟩
      rw [hrme] at hrm HR
      have HRM := hide hrme
      have hof := HOFF.out k
      have hsc := rows_get hown (startsL_get os (k + 1) k (by omega))
      obtain ⟨ofk, hofe⟩ : ∃ ofk, offF (os.take k) = ofk := ⟨_, rfl⟩
      rw [hofe] at hof hsc
      have HOE := hide hofe
      have hofi : (ofk : Int) ≤ 54400 := by omega
      have hrmi : (rm : Int) ≤ 544 := by omega
      have G1 := hide g1
      have HQ := hide hq
      have HOW := hide hown
      clear hob g1 hrme hofe hq hown
      unfold maxLen at hg4
      go_wp2_with fail
      go_region_law (first
        | (go_simp; go_at_call 83; refine (HR.out _).mono ?_; rintro e w5 ⟨rfl, hq5⟩; have hsc5 : w5.cell? ⟨g, k, none⟩ = some (.int .i64 (ofk : Nat)) := (hq5.facts.1 g k hg2).trans hsc)
        | (refine step_app1 (by rfl) El_int _ _ (by rfl) (by rfl) (own_q HOW.out ((Q.refl wr).drew.trans (by assumption))) rfl (by rfl) (by rfl) ?_ ?_ ?_ ?_; (focus (intro u hu; simp at hu; subst hu; rfl)); (focus omega); (focus (have h9 : wr.heap.size ≤ w5.heap.size := hq5.size; omega)); intro v7 w7 hown7 hb7))
      all_goals (
        have hq05 : Q w w5 := HQ.out.trans ((Q.refl wr).drew.trans hq5)
        have hwrp : IntKind.i64.wrap ((ofk : Int) + (rm : Int)) = (ofk : Int) + (rm : Int) := by rw [IntKind.wrap_i64]; omega
        rw [hwrp] at hown7
        clear hsc5 hwrp
        go_wp2_with fail
        go_roundw
        case rel => exact ⟨k + 1, by omega, by go_num, by
          rw [show startsL os (k + 1 + 1) = startsL os (k + 1) ++ [((ofk : Int) + (rm : Int))] by rw [startsL_succ os (k + 1), offF_succ G1.out, HOE.out]; dsimp only; rw [HRM.out]; simp, List.map_append]
          exact hown7, hq05.below.trans hb7⟩
        case measure => simp [intOf] <;> omega)
    · have hd1 : decide ((k : Int) < (n : Int)) = false := by simp; omega
      have hd0 : decide (k < n) = false := by simp; omega
      obtain rfl : k = n := by omega
      have HOW := hide hown
      clear hown
      go_wp2_with fail
      go_ret
      exact ⟨_, rfl, HOW.out, hq⟩
theorem SameInts_same (A1 : Option Addr) (n c1 : Nat) (A2 : Option Addr) (c2 : Nat) (xs : List Int) (w : World) (h1 : Sl 1 (encI .i64) w A1 n c1 xs) (h2 : Sl 1 (encI .i64) w A2 n c2 xs) (hn : n ≤ 100000) :
    Calls Try.prog 18 #[.slice A1 n c1, .slice A2 n c2] w fun e w' => e = .returned (.bool true) ∧ Q w w' := by
  have d : ((n : Int) != (n : Int)) = false := by simp
  have H1 := hide h1
  have H2 := hide h2
  have hni : (n : Int) ≤ 100000 := by omega
  have get1 : ∀ {w : World} {A : Option Addr} {n c : Nat} {xs : List Int}, Sl 1 (encI .i64) w A n c xs → ∀ i, i < n → ∃ b o x, A = some ⟨b, o, none⟩ ∧ b < w.heap.size ∧ xs[i]? = some x ∧ w.cell? ⟨b, o + i, none⟩ = some (.int .i64 x) := fun h i hi => by
    obtain ⟨b, o, x, e, hb, hx, hc⟩ := h.at_ (fun _ => rfl) (by decide) i hi
    exact ⟨b, o, x, e, hb, hx, by have := hc 0 _ rfl; simpa using this⟩
  have GET := hide (fun (W : World) (A : Option Addr) (c : Nat) (h : Sl 1 (encI .i64) W A n c xs) => get1 h)
  clear h1 h2 get1
  go_enter Try.func18, Try.ntmps18
  go_wp2_with fail
  go_loopw [5] (fun vi wr => ∃ i : Nat, i ≤ n ∧ vi = .int .i64 i ∧ Q w wr) (fun vi _ => n - (intOf vi).toNat)
  case atStart => exact ⟨0, by omega, by go_num, Q.refl _⟩
  case round =>
    obtain ⟨i, hi, rfl, hq⟩ := hrel
    have hsz := hq.size
    by_cases hlt : i < n
    · have hd0 : decide (i < n) = true := by simpa using hlt
      have hd1 : decide ((i : Int) < (n : Int)) = true := by simpa using hlt
      have hlti : (i : Int) < (n : Int) := by omega
      obtain ⟨b1, o1, x, rfl, hb1, g1, k1⟩ := GET.out _ _ _ (H1.out.up hq) i hlt
      obtain ⟨b2, o2, y, rfl, hb2, g2, k2⟩ := GET.out _ _ _ (H2.out.up hq) i hlt
      rw [g1] at g2
      obtain rfl := Option.some.inj g2
      have f : (x != x) = false := by simp
      clear g1 g2
      go_wp2_with fail
      have hxc := ext_cell
      refine wp_region_ext (by kernel_rfl) (by kernel_rfl) ?_
      repeat (go_big_quiet_step ((fail)))
      clear hxc
      refine wpQuiet_nil ?_
      intro wz hwwz
      have hqwz := q_of_ext hwwz
      clear hwwz
      obtain ⟨hcwz, hfwz, hzwz⟩ := hqwz.facts
      try simp at hzwz
      try have hs0wz : w.heap.size < wz.heap.size := by omega
      try have hs1wz : w.heap.size + 1 < wz.heap.size := by omega
      clear hcwz hfwz k1 k2
      go_wp2_with fail
      go_roundw
      case rel => exact ⟨i + 1, by omega, by go_num, hq.trans hqwz⟩
      case measure => simp [intOf] <;> omega
    · have hd0 : decide (i < n) = false := by simpa using hlt
      have hd1 : decide ((i : Int) < (n : Int)) = false := by simpa using hlt
      go_wp2_with fail
      go_ret
      exact ⟨rfl, hq⟩
end Go.Proofs.Ytjdioilkhbpmoaa
