/- Cells: their reader; Count, Same of both. Conditions: the cells read as such. -/
import Derived.Test.YtbgbalfhbficaaaRows
import Derived.Test.YtbgbalfhbficaaaCelA
import Derived.Test.YtbgbalfhbficaaaBase
import Derived.WalkLawsBesides
import Derived.WalkSpells
import Derived.Outline
namespace Go.Proofs.Ytbgbalfhbficaaa
open Go.RowKit
set_option linter.unusedVariables false
set_option linter.unusedSimpArgs false
theorem cel_step {Z : Nat} (h : RdrB Z Try.prog 31 4 encC CelR) : RdrB (Z + 1 + 1) Try.prog 31 4 encC CelR := by
  have S := RdrB.slice h (by decide) Try.underlying29 (by kernel_rfl) (show Try.prog.bytesOf 31 = 40 by kernel_rfl) (by decide)
  have T : RdrB (Z + 1 + 1) Try.prog 31 4 (fun p : Int × Bool × Bool × SlV Cel => encI .i64 p.1 ++ (encB p.2.1 ++ (encB p.2.2.1 ++ encV p.2.2.2))) (fun w p => (Lit.int .i64 p.1).wf = true ∧ (True ∧ (True ∧ SlOk 4 encC CelR w p.2.2.2))) :=
    RdrB.struct Try.underlying31 (by kernel_rfl) (by
      refine RdrFB.cons (i := 0) (off := 0) (k := 1) (k' := 3) (enc := encI .i64) (enc' := fun p : Bool × Bool × SlV Cel => encB p.1 ++ (encB p.2.1 ++ encV p.2.2)) (ok := fun (_ : World) (a : Int) => (Lit.int .i64 a).wf = true) (ok' := fun w p => True ∧ (True ∧ SlOk 4 encC CelR w p.2.2)) (f := _) (hf := rfl) ?_ ?_ ?_
      · rfl
      · exact (Rdr.int Try.underlying3 (by kernel_rfl)).b _
      refine RdrFB.cons (i := 1) (off := 1) (k := 1) (k' := 2) (enc := encB) (enc' := fun p : Bool × SlV Cel => encB p.1 ++ encV p.2) (ok := fun _ _ => True) (ok' := fun w p => True ∧ SlOk 4 encC CelR w p.2) (f := _) (hf := rfl) ?_ ?_ ?_
      · rfl
      · exact (Rdr.bool Try.underlying4 (by kernel_rfl)).b _
      refine RdrFB.cons (i := 2) (off := 2) (k := 1) (k' := 1) (enc := encB) (enc' := encV) (ok := fun _ _ => True) (ok' := SlOk 4 encC CelR) (f := _) (hf := rfl) ?_ ?_ ?_
      · rfl
      · exact (Rdr.bool Try.underlying4 (by kernel_rfl)).b _
      refine RdrFB.one (f := _) (hf := rfl) ?_ ?_
      · rfl
      exact S)
  exact ⟨len_encC, T.cells, fun {H en w n cs x} hz hx hm => by
    obtain ⟨⟨a, b, c, s⟩, rfl, h1, -, -, h4⟩ := T.read hz hx hm
    exact ⟨.mk a b c s.A s.n s.c s.xs, rfl, .mk h1 h4.sl h4.nil_ h4.big h4.all⟩⟩
theorem RdrB.less {P : Program} {t : TypeId} {Z Z' k : Nat} {α : Type} {enc : α → List Value} {ok : World → α → Prop} (h : RdrB Z P t k enc ok) (hz : Z' ≤ Z) : RdrB Z' P t k enc ok := ⟨h.len, h.cells, fun hx => h.read (Nat.lt_of_lt_of_le hx hz)⟩
theorem cel_all : ∀ Z, RdrB Z Try.prog 31 4 encC CelR
  | 0 => ⟨len_encC, by kernel_rfl, fun h => absurd h (Nat.not_lt_zero _)⟩
  | Z + 1 => (cel_step (cel_all Z)).less (Nat.le_succ _)
theorem rdCell : Rdr Try.prog 31 4 encC CelR := RdrB.all cel_all
/-- a part of a cell's slice, read -/
theorem cel_at {w : World} {A : Option Addr} {n c : Nat} {ps : List Cel} (h : Sl 4 encC w A n c ps) {k : Nat} (hk : k < n) :
    ∃ b o m x y B l d qs, A = some ⟨b, o, none⟩ ∧ b < w.heap.size ∧ ps[k]? = some (.mk m x y B l d qs) ∧ w.cell? ⟨b, o + k * 4, none⟩ = some (.int .i64 m) ∧ w.cell? ⟨b, o + k * 4 + 1, none⟩ = some (.bool x) ∧ w.cell? ⟨b, o + k * 4 + 2, none⟩ = some (.bool y) ∧ w.cell? ⟨b, o + k * 4 + 3, none⟩ = some (.slice B l d) := by
  obtain ⟨b, o, x, e, hb, hx, hc⟩ := h.at_ len_encC (by decide) k hk
  cases x with
  | mk m x y B l d qs =>
    exact ⟨b, o, m, x, y, B, l, d, qs, e, hb, hx, (by have h0 := hc 0 _ rfl; rw [Nat.add_zero] at h0; exact h0), hc 1 _ rfl, hc 2 _ rfl, hc 3 _ rfl⟩
set_option maxRecDepth 100000 in
set_option maxHeartbeats 4000000 in
theorem Count_any {w : World} {a : Cel} (h : CelR w a) : ∀ W, Q w W → Calls Try.prog 20 #[a.v] W fun e w' => (∃ n : Int, e = .returned (.int .i64 n)) ∧ Q W w' := by
  induction h with
  | @mk n x y A len cap parts hn hsl hnil hcap hall ih =>
    intro W hqW
    have HSL := hide hsl
    have HIH := hide ih
    have HQW := hide hqW
    show Calls _ _ #[.agg #[.int .i64 n, .bool x, .bool y, .slice A len cap]] W _
    obtain ⟨w1, hw1⟩ : ∃ w1, W.alloc (.cells #[.int .i64 n, .bool x, .bool y, .slice A len cap] 31) = w1 := ⟨_, rfl⟩
    have hq1 : Q W w1 := by rw [← hw1]; exact (Q.refl W).alloc _
    have hs1 : W.heap.size < w1.heap.size := by rw [← hw1]; simp
    have K3 := hide (show w1.cell? ⟨W.heap.size, 3, none⟩ = some (.slice A len cap) by rw [← hw1]; simp)
    have hlb : (len : Int) ≤ 140737488351232 := by have := hsl.cap; omega
    have HQ1 := hide hq1
    have HW1 := hide hw1
    clear hn hsl hnil hcap hall ih hqW hq1 hw1
    go_enter Try.func20, Try.ntmps20
    go_wp2_with fail
    rw [HW1.out]
    go_loopw [3, 4] (fun v3 vi wr => ∃ (k : Nat) (m : Int), k ≤ len ∧ v3 = .int .i64 m ∧ vi = .int .i64 k ∧ Q w1 wr) (fun _ vi _ => len - (intOf vi).toNat)
    case atStart => exact ⟨0, 1, by omega, by go_num, by go_num, Q.refl _⟩
    case round =>
      obtain ⟨k, m, hk, rfl, rfl, hq⟩ := hrel
      have k3 := (hq.facts.1 _ 3 hs1).trans K3.out
      have HQ := hide hq
      by_cases hlt : k < len
      · have hd1 : decide ((k : Int) < (len : Int)) = true := by simp; omega
        have hd0 : decide (k < len) = true := by simp; omega
        have hlti : (k : Int) < (len : Int) := by omega
        obtain ⟨b, o, m', x', y', B, l', d', qs, e, hb, hx, z0, z1, z2, z3⟩ := cel_at (HSL.out.up ((HQW.out.trans HQ1.out).trans hq)) hlt
        cases e
        have HC := hide (HIH.out _ (List.mem_of_getElem? hx) wr ((HQW.out.trans HQ1.out).trans hq))
        unfold Cel.v at HC
        dsimp only at HC
        clear hx hq hk
        go_wp2_with fail
        refine HC.out.mono ?_
        rintro e w2 ⟨⟨m2, rfl⟩, hq2⟩
        have HQ2 := hide (HQ.out.trans hq2)
        clear hq2 z0 z1 z2 z3 k3
        go_wp2_with fail
        go_roundw
        case rel => exact ⟨k + 1, _, by omega, rfl, by go_num, HQ2.out⟩
        case measure => simp [intOf] <;> omega
      · have hd1 : decide ((k : Int) < (len : Int)) = false := by simp; omega
        have hd0 : decide (k < len) = false := by simp; omega
        obtain rfl : k = len := by omega
        clear hq
        go_wp2_with fail
        go_ret
        exact ⟨⟨_, rfl⟩, HQ1.out.trans HQ.out⟩
end Go.Proofs.Ytbgbalfhbficaaa
