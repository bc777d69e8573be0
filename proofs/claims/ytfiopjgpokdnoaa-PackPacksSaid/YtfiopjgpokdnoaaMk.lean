/- make of a slice of one-cell elements, at the operation. Conditions: as the theorem says. -/
import Derived.Test.YtfiopjgpokdnoaaApp
import Derived.OwnWalk
namespace Go.Proofs.Ytfiopjgpokdnoaa
open Go.RowKit
set_option linter.unusedVariables false
theorem wpList_mk {P : Program} {t e bytes : Nat} {w : World} {ops : Array Oper} {rest : List Oper} {o : Oper} {a : Act} {Q' : Exit → Act → World → Prop} (hgd : o.guard = none) (l c : Operand) (hop : o.op = Op.makeSlice t l c) {z : Value}
    (hu : P.underlying t = some (.slice e)) (hinf : (P.info? e).map (fun i => (i.zero, i.size, i.bytes)) = some (some z, 1, bytes)) (hz : z.cells = #[z]) (base : Nat)
    {kl kc : IntKind} {L C : Int} {n : Nat} (hl : a.eval l = .int kl L) (hc : a.eval c = .int kc C) (hL : L = (n : Int)) (hC : C = (n : Int)) (hb : bytes * n ≤ 281474976710656) (hm : n ≤ 9223372036854775807) (hbase : base ≤ w.heap.size)
    (h : ∀ w', w'.ownsRow base e 1 (.slice (some ⟨w.heap.size, 0, none⟩) n n) n (List.replicate n z) → Q w w' → w.heap.size < w'.heap.size → wpList P ops Q' rest (a.put o.dst (.slice (some ⟨w.heap.size, 0, none⟩) n n)) w') : wpList P ops Q' (o :: rest) a w := by
  obtain ⟨i, h1, h2, h3, h4⟩ := info_parts hinf
  refine wpList_make_full w hgd l c t hop base e i z 1 hu h1 h2 h3 kl kc L C n hl hc hL hC (by rw [h4]; exact hb) (by unfold maxLen; omega) hbase (fun w' ho hg => h w' ?_ ?_ ?_)
  · rw [hz, Nat.mul_one, toList_madeCells_one] at ho
    exact ho
  · exact ⟨hg.os, hg.tape, hg.output, hg.size, fun k hk => hg.block k hk (by simp)⟩
  · exact (ho.lt w.heap.size rfl).2
end Go.Proofs.Ytfiopjgpokdnoaa
