/- The walk of the program's Validate. Conditions: the object reads as one. -/
import Derived.Test.YtjdioilkhbpmoaaLinkC
namespace Go.Proofs.Ytjdioilkhbpmoaa
open Go.RowKit LK
set_option linter.unusedVariables false
theorem dup_step {ss : List Sym} {k : Nat} {x : Sym} (h : ss[k]? = some x) : dupB ((ss.take k).map (·.1)) ((ss.drop k).map (·.1)) = ((ss.take k).any (fun y => y.1.toList == x.1.toList) || dupB ((ss.take (k + 1)).map (·.1)) ((ss.drop (k + 1)).map (·.1))) := by
  obtain ⟨hk, e⟩ := List.getElem?_eq_some_iff.1 h
  rw [List.drop_eq_getElem_cons hk, List.map_cons, dupB, e, List.take_succ_eq_append_getElem hk, e, List.map_append, List.any_map]
  rfl
theorem valid_big {n : Nat} {ss : List Sym} {ws : List Wnt} (h : 512 < n ∨ 16 < ss.length ∨ 16 < ws.length) : validF n ss ws = 3 := by unfold validF; rw [if_pos h]
theorem valid_arg {n : Nat} {ss : List Sym} {ws : List Wnt} (h : ¬ (512 < n ∨ 16 < ss.length ∨ 16 < ws.length)) (h2 : soundB n ss ws = false) : validF n ss ws = 1 := by unfold validF; rw [if_neg h, if_pos h2]
theorem valid_dup {n : Nat} {ss : List Sym} {ws : List Wnt} (h : ¬ (512 < n ∨ 16 < ss.length ∨ 16 < ws.length)) (h2 : soundB n ss ws = true) (h3 : dupB [] (ss.map (·.1)) = true) : validF n ss ws = 5 := by unfold validF; rw [if_neg h, if_neg (by simp [h2]), if_pos h3]
theorem valid_ok {n : Nat} {ss : List Sym} {ws : List Wnt} (h : ¬ (512 < n ∨ 16 < ss.length ∨ 16 < ws.length)) (h2 : soundB n ss ws = true) (h3 : dupB [] (ss.map (·.1)) = false) : validF n ss ws = 0 := by unfold validF; rw [if_neg h, if_neg (by simp [h2]), if_neg (by simp [h3])]
set_option maxRecDepth 100000 in
set_option maxHeartbeats 4000000 in
theorem Validate_any (A0 : Option Addr) (n0 c0 : Nat) (A1 : Option Addr) (n1 c1 : Nat) (ss : List Sym) (A2 : Option Addr) (n2 c2 : Nat) (ws : List Wnt) (w : World) (hS : Sl 2 encSym w A1 n1 c1 ss) (hT : Sl 3 encWnt w A2 n2 c2 ws)
    (hs : ∀ x ∈ ss, x.1.size ≤ 140737488351232) (ht : ∀ x ∈ ws, x.2.2.size ≤ 140737488351232) :
    Calls Try.prog 24 #[.agg #[.slice A0 n0 c0, .slice A1 n1 c1, .slice A2 n2 c2]] w fun e w' => e = .returned (.int .i64 (validF n0 ss ws : Nat)) ∧ Q w w' := by
  have l1 := hS.len
  have l2 := hT.len
  by_cases b0 : 512 < n0
  · have d0 : decide ((512 : Int) < (n0 : Int)) = true := by simp; omega
    have e := valid_big (n := n0) (ss := ss) (ws := ws) (.inl b0)
    have E := hide e
    clear hS hT hs ht l1 l2 e
    go_enter Try.func24, Try.ntmps24
    go_wp2_with fail
    go_ret
    exact ⟨by rw [E.out]; rfl, (Q.refl w).alloc _⟩
  have d0 : decide ((512 : Int) < (n0 : Int)) = false := by simp; omega
  by_cases b1 : 16 < n1
  · have d1 : decide ((16 : Int) < (n1 : Int)) = true := by simp; omega
    have e := valid_big (n := n0) (ss := ss) (ws := ws) (.inr (.inl (by omega)))
    have E := hide e
    clear hS hT hs ht l1 l2 e
    go_enter Try.func24, Try.ntmps24
    go_wp2_with fail
    go_ret
    exact ⟨by rw [E.out]; rfl, (Q.refl w).alloc _⟩
  have d1 : decide ((16 : Int) < (n1 : Int)) = false := by simp; omega
  by_cases b2 : 16 < n2
  · have d2 : decide ((16 : Int) < (n2 : Int)) = true := by simp; omega
    have e := valid_big (n := n0) (ss := ss) (ws := ws) (.inr (.inr (by omega)))
    have E := hide e
    clear hS hT hs ht l1 l2 e
    go_enter Try.func24, Try.ntmps24
    go_wp2_with fail
    go_ret
    exact ⟨by rw [E.out]; rfl, (Q.refl w).alloc _⟩
  have d2 : decide ((16 : Int) < (n2 : Int)) = false := by simp; omega
  have hnb : ¬ (512 < n0 ∨ 16 < ss.length ∨ 16 < ws.length) := by omega
  have HNB := hide hnb
  have hq1 : Q w (w.alloc (.cells #[.slice A0 n0 c0, .slice A1 n1 c1, .slice A2 n2 c2] 41)) := (Q.refl w).alloc _
  have HSO := hide (isSound_any A0 n0 c0 A1 n1 c1 ss A2 n2 c2 ws _ (hS.up hq1) (hT.up hq1) hs ht (by omega) (by omega) (by omega))
  have HS := hide hS
  have L1 := hide l1
  have hn1i : (n1 : Int) ≤ 16 := by omega
  clear hS hT hs ht l2 hnb l1
  go_enter Try.func24, Try.ntmps24
  go_wp2_with fail
  refine HSO.out.mono ?_
  rintro e w2 ⟨rfl, hq2⟩
  have hq02 := hq1.trans hq2
  have hs2 : w.heap.size < w2.heap.size := by have := hq2.size; simp at this; omega
  have kb1 : w2.cell? ⟨w.heap.size, 1, none⟩ = some (.slice A1 n1 c1) := by rw [hq2.facts.1 _ _ (by simp)]; simp
  have KB1 := hide kb1
  cases hso : soundB n0 ss ws
  · have E := hide (valid_arg HNB.out hso)
    clear hso
    go_wp2_with fail
    go_ret
    exact ⟨by rw [E.out]; rfl, hq02⟩
  · have HSOK := hide hso
    clear hso hq1 hq2
    go_wp2_with fail
    clear kb1 d0 d1 d2
    go_loopw [27] (fun vi wr => ∃ k : Nat, k ≤ n1 ∧ vi = .int .i64 k ∧ dupB [] (ss.map (·.1)) = dupB ((ss.take k).map (·.1)) ((ss.drop k).map (·.1)) ∧ Q w2 wr) (fun vi _ => n1 - (intOf vi).toNat)
    case atStart => exact ⟨0, by omega, by go_num, rfl, Q.refl _⟩
    case round =>
      obtain ⟨k, hk, rfl, hd, hq⟩ := hrel
      have HD := hide hd
      have hsz := hq.size
      have kb1 := (hq.facts.1 _ 1 hs2).trans KB1.out
      have hswr : w.heap.size < wr.heap.size := by omega
      clear hd
      by_cases hlt : k < n1
      · have hd1 : decide ((k : Int) < (n1 : Int)) = true := by simp; omega
        have hd0 : decide (k < n1) = true := by simp; omega
        have hlti : (k : Int) < (n1 : Int) := by omega
        have hS' := HS.out.up (hq02.trans hq)
        obtain ⟨b1, o1, nm, at_, rfl, hb1, g1, x1, x2⟩ := hS'.sym k hlt
        have hkc : k ≤ c1 := by have := hS'.cap; omega
        have hkci : (k : Int) ≤ (c1 : Int) := by omega
        have hcm := hS'.most
        have hstep := dup_step g1
        have HST := hide hstep
        have HQ := hide hq
        have hqa : Q wr (wr.alloc (.cells #[.string nm, .int .i64 at_] 72)) := (Q.refl wr).alloc _
        have HN := hide (has_twice (fun y => y.1.toList == nm.toList) (.pointer (some ⟨wr.heap.size, 0, none⟩)) (some ⟨b1, o1, none⟩) k c1 (ss.take k) _ ((Sl.take (k := 2) (enc := encSym) (fun _ => rfl) hS' k (by omega)).up hqa) (by omega) (fun nm' at' hm W hqW => sameC wr.heap.size (nm', at') nm W (by have := hqW.size; simp at this; omega) (by rw [hqW.facts.1 _ _ (by simp)]; simp)))
        clear g1 hq hstep hS'
        go_wp2_with fail
        refine HN.out.mono ?_
        rintro e w3 ⟨rfl, hq3⟩
        have hq03 := ((hq02.trans HQ.out).trans hqa).trans hq3
        have hqw2 := (HQ.out.trans hqa).trans hq3
        cases hany : (ss.take k).any fun y => y.1.toList == nm.toList
        · have hnx : dupB [] (ss.map (·.1)) = dupB ((ss.take (k + 1)).map (·.1)) ((ss.drop (k + 1)).map (·.1)) := by rw [HD.out, HST.out, hany]; rfl
          have HNX := hide hnx
          clear hany hnx x1 x2 kb1
          go_wp2_with fail
          go_roundw
          case rel => exact ⟨k + 1, by omega, by go_num, HNX.out, hqw2⟩
          case measure => simp [intOf] <;> omega
        · have hf : dupB [] (ss.map (·.1)) = true := by rw [HD.out, HST.out, hany]; rfl
          have E := hide (valid_dup HNB.out HSOK.out hf)
          clear hf hany x1 x2 kb1
          go_wp2_with fail
          go_ret
          exact ⟨by rw [E.out]; rfl, hq03⟩
      · have hd1 : decide ((k : Int) < (n1 : Int)) = false := by simp; omega
        have hd0 : decide (k < n1) = false := by simp; omega
        have hf : dupB [] (ss.map (·.1)) = false := by rw [HD.out, List.drop_eq_nil_of_le (by have := L1.out; omega)]; rfl
        have E := hide (valid_ok HNB.out HSOK.out hf)
        have hq0 := hq02.trans hq
        clear hf kb1 hq
        go_wp2_with fail
        go_ret
        exact ⟨by rw [E.out]; rfl, hq0⟩
end Go.Proofs.Ytjdioilkhbpmoaa
