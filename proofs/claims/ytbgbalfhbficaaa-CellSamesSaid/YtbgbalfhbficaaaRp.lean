/- Steps of a region that draws its order, more of them. Conditions: as each theorem says. -/
import Derived.Test.YtbgbalfhbficaaaMg
import Derived.Test.YtbgbalfhbficaaaRk
namespace Go.Proofs.Ytbgbalfhbficaaa
open Go.RowKit
set_option linter.unusedVariables false
set_option linter.unusedSimpArgs false

namespace Ri
section
variable {P : Program} {R : Exit → Act → World → Prop} {o : Oper} {A : Act} {w : World}
theorem run_mini {x y : Operand} {t t' : TypeId} {p u : Int} (ho : o.op = .call { callee := .builtin .min, args := #[x, y], argTypes := #[t, t'] }) (hx : A.eval x = .int .i64 p) (hy : A.eval y = .int .i64 u) : (execOp A.eval o).run P w = .ok (.value (.int .i64 (min p u))) w := by
  unfold execOp
  have e : min p u = if u < p then u else p := by
    split
    · exact Int.min_eq_right (by omega)
    · exact Int.min_eq_left (by omega)
  rw [e]
  simp only [ho, resolve, invoke, builtin, Sem.run_bind, Sem.run_pure, Result.andThen_ok, List.map_toArray, List.map_cons, List.map_nil, hx, hy]
  simp [Builtin.min_, Builtin.min2]
theorem run_len {x : Operand} {t e : TypeId} {b : Option Addr} {n c : Nat} (ho : o.op = .call { callee := .builtin .len, args := #[x], argTypes := #[t] }) (hx : A.eval x = .slice b n c) (ht : P.underlying t = some (.slice e)) : (execOp A.eval o).run P w = .ok (.value (.int .i64 (n : Nat))) w := by
  unfold execOp
  simp only [ho, resolve, invoke, builtin, Sem.run_bind, Sem.run_pure, Result.andThen_ok, List.map_toArray, List.map_cons, List.map_nil, hx]
  simp [Builtin.len_, run_underlying ht, goInt]
theorem run_sub {x y : Operand} {t t' : TypeId} {p u : Int} (ho : o.op = .binOp .sub t x y t') (hx : A.eval x = .int .i64 p) (hy : A.eval y = .int .i64 u) (hu : P.underlying t = some (.int .i64)) (h0 : -9223372036854775808 ≤ p - u) (h1 : p - u ≤ 9223372036854775807) : (execOp A.eval o).run P w = .ok (.value (.int .i64 (p - u))) w := by
  have e : IntKind.i64.wrap (p - u) = p - u := by rw [IntKind.wrap_i64]; omega
  unfold execOp
  simp only [ho, hx, hy]
  simp [go_sem, e]
theorem run_eql {x y : Operand} {t t' : TypeId} {p u : Int} (ho : o.op = .binOp .eql t x y t') (hx : A.eval x = .int .i64 p) (hy : A.eval y = .int .i64 u) (hu : P.underlying t = some (.int .i64)) : (execOp A.eval o).run P w = .ok (.value (.bool (p == u))) w := by
  unfold execOp
  simp only [ho, hx, hy]
  simp [go_sem]
theorem run_ext {x : Operand} {k : Nat} {vs : Array Value} {v : Value} (ho : o.op = .extract x k) (hx : A.eval x = .tuple vs) (hv : vs[k]? = some v) : (execOp A.eval o).run P w = .ok (.value v) w := by
  unfold execOp
  simp [ho, hx, Instr.extract, hv]
theorem run_nilI {x : Operand} {t : TypeId} {u : Value} (ho : o.op = .nilCheck x) (hx : A.eval x = .iface t u) : (execOp A.eval o).run P w = .ok (.value (.iface t u)) w := by
  unfold execOp
  simp [ho, hx]
/-- a slice cut short -/
theorem run_cut {x hi : Operand} {t e : TypeId} {b n c : Nat} {m : Nat} (ho : o.op = .slice t x none (some hi) none) (hx : A.eval x = .slice (some ⟨b, 0, none⟩) n c) (hh : A.eval hi = .int .i64 (m : Int)) (hu : P.underlying t = some (.slice e)) {sz : Nat} (hs : (P.info? e).map (·.size) = some sz) (hm : m ≤ c) :
    (execOp A.eval o).run P w = .ok (.value (.slice (some ⟨b, 0, none⟩) m c)) w := by
  have hu' : P.underlying t = some (.slice (P.elem t)) := by
    have : P.elem t = e := by unfold Program.elem; simp [hu]
    rw [this]; exact hu
  have he : P.elem t = e := by unfold Program.elem; simp [hu]
  have hsz : (sizeOf e).run P w = .ok sz w := by
    cases hq : P.info? e with
    | none => simp [hq] at hs
    | some i => simp [hq] at hs; simp [sizeOf, typeInfo, hq, hs]
  unfold execOp
  simp only [ho, hx, Option.map_none, Option.map_some, hh]
  simp [run_sliceAt_slice _ _ _ _ _ _ hu', run_slice_h (P := P) w t _ n c hu' .i64 (m : Int) (by omega) (by omega), he, hsz, sliced]
  intro _
  exact addr_add b 0 0
/-- two or more cells, read as a value -/
theorem run_ldagg {ty : TypeId} {x : Operand} {g off : Nat} {cs : List Value} {d : TypeDesc} (ho : o.op = .load ty x) (hx : A.eval x = .pointer (some ⟨g, off, none⟩)) (hc : ∀ j v, cs[j]? = some v → w.cell? ⟨g, off + j, none⟩ = some v) (hu : P.underlying ty = some d) (hd : (match d with | .struct _ | .array _ _ => true | _ => false) = true) (hi : (P.info? ty).map (·.size) = some cs.length) :
    (execOp A.eval o).run P w = .ok (.value (.agg cs.toArray)) w := by
  have hl : (loadCells ⟨g, off, none⟩ cs.length).run P w = .ok cs.toArray w := run_loadCells_list (P := P) w ⟨g, off, none⟩ cs (fun j v hv => by rw [addr_add]; exact hc j v hv)
  have h : (loadVar ty ⟨g, off, none⟩).run P w = .ok (.agg cs.toArray) w := by
    cases hq : P.info? ty with
    | none => simp [hq] at hi
    | some i =>
      have hs : i.size = cs.length := by simpa [hq] using hi
      have hagg : (isAgg ty).run P w = .ok true w := by
        unfold isAgg
        rw [Sem.run_bind, run_underlying hu w]
        cases d <;> simp_all
      simp [loadVar, hagg, sizeOf, typeInfo, hq, hs, hl, Sem.run_bind]
  unfold execOp
  simp [ho, hx, Instr.loadAt, Instr.sureAddr, h]
/-- an element's address -/
theorem run_idx {t e : TypeId} {x y : Operand} {g off n c k sz : Nat} (ho : o.op = .indexAddr t x y) (hx : A.eval x = .slice (some ⟨g, off, none⟩) n c) (hy : A.eval y = .int .i64 (k : Int)) (hu : P.underlying t = some (.slice e)) (hs : (P.info? e).map (·.size) = some sz) (hk : k < n) :
    (execOp A.eval o).run P w = .ok (.value (.pointer (some ⟨g, off + k * sz, none⟩))) w := by
  have hsz : (sizeOf e).run P w = .ok sz w := by
    cases hq : P.info? e with
    | none => simp [hq] at hs
    | some i => simp [hq] at hs; simp [sizeOf, typeInfo, hq, hs]
  have he : P.elem t = e := by unfold Program.elem; simp [hu]
  have hu' : P.underlying t = some (.slice (P.elem t)) := by rw [he]; exact hu
  unfold execOp
  simp only [ho, hx, hy]
  have h1 : (k : Int) < (n : Int) := by omega
  simp [run_indexAt_slice (P := P) w t _ n c .i64 (k : Int) hu', he, hsz, hk, addr_add, Result.andThen]
/-- the last operation, that yields a value and turns nothing -/
theorem wp_lastv {v : Value} (h : (execOp A.eval o).run P w = .ok (.value v) w) (hR : R .normal (A.put o.dst v) w) : o.wp P A w (fun a' w' => ∃ v, a' = A.put o.dst v ∧ R .normal a' w') R := by
  unfold Oper.wp
  rw [h]
  exact ⟨v, rfl, hR⟩
end
end Ri
end Go.Proofs.Ytbgbalfhbficaaa
