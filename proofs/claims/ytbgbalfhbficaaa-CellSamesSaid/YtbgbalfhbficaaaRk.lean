/- Steps of a region that draws its order: what each operation yields, as an equation; and how a step of each make is shown. Conditions: as each theorem says. -/
import Derived.Test.YtbgbalfhbficaaaRc
import Derived.Laws.Rows
namespace Go.Proofs.Ytbgbalfhbficaaa
open Go.RowKit
set_option linter.unusedVariables false
set_option linter.unusedSimpArgs false
namespace Ri
section
variable {P : Program} {R : Exit → Act → World → Prop} {o : Oper} {A : Act} {w : World} {φ : Value → World → Prop}
theorem run_mv {x : Operand} {v : Value} (ho : o.op = .move x) (hx : A.eval x = v) : (execOp A.eval o).run P w = .ok (.value v) w := by unfold execOp; simp [ho, hx]
theorem run_asg {x : Operand} {v : Value} (ho : o.op = .assign x) (hx : A.eval x = v) : (execOp A.eval o).run P w = .ok (.value v) w := by unfold execOp; simp [ho, hx]
theorem run_nil {x : Operand} {a : Addr} (ho : o.op = .nilCheck x) (hx : A.eval x = .pointer (some a)) : (execOp A.eval o).run P w = .ok (.value (.pointer (some a))) w := by unfold execOp; simp [ho, hx]
theorem run_fld {s : TypeId} {x : Operand} {k b off : Nat} {fs : Array Field} {f : Field} (ho : o.op = .fieldAddr s x k) (hx : A.eval x = .pointer (some ⟨b, off, none⟩)) (hu : P.underlying s = some (.struct fs)) (hf : fs[k]? = some f) {sz : Nat} (hs : (P.info? f.type).map (·.size) = some (sz + 1)) :
    (execOp A.eval o).run P w = .ok (.value (.pointer (some ⟨b, off + f.offset, none⟩))) w := by
  unfold execOp
  obtain ⟨i, hi, hsz⟩ := Option.map_eq_some_iff.1 hs
  simp [ho, hx, Instr.fieldAt, fieldPlace, sizeOf, typeInfo, hi, hsz, addr_add, Instr.sureAddr, run_underlying hu, hf, Sem.run_bind]
theorem run_ld1 {ty : TypeId} {x : Operand} {b off : Nat} {v : Value} {d : TypeDesc} (ho : o.op = .load ty x) (hx : A.eval x = .pointer (some ⟨b, off, none⟩)) (hu : P.underlying ty = some d) (hd : (match d with | .struct _ | .array _ _ => true | _ => false) = false)
    (hc : w.cell? ⟨b, off, none⟩ = some v) : (execOp A.eval o).run P w = .ok (.value v) w := by
  unfold execOp
  have hagg : (isAgg ty).run P w = .ok false w := by
    unfold isAgg
    rw [Sem.run_bind, run_underlying hu w]
    cases d <;> simp_all
  simp [ho, hx, Instr.loadAt, Instr.sureAddr, loadVar, hagg, hc, Sem.run_bind]
/-- a struct read out of a block that is known whole -/
theorem run_ldrow {ty : TypeId} {x : Operand} {g : Nat} {t : TypeId} {cs : Array Value} {fr : Nat × Nat} {d : TypeDesc} (ho : o.op = .load ty x) (hx : A.eval x = .pointer (some ⟨g, 0, none⟩)) (hg : w.heap[g]? = some (.cells cs t fr)) (hu : P.underlying ty = some d) (hd : (match d with | .struct _ | .array _ _ => true | _ => false) = true) (hi : (P.info? ty).map (·.size) = some cs.size) :
    (execOp A.eval o).run P w = .ok (.value (.agg cs)) w := by
  unfold execOp
  have h := run_loadVar_row (P := P) w g t ty cs fr d hg hu hd hi
  simp [ho, hx, Instr.loadAt, Instr.sureAddr, h]
theorem run_maxi {x y : Operand} {t t' : TypeId} {p u : Int} (ho : o.op = .call { callee := .builtin .max, args := #[x, y], argTypes := #[t, t'] }) (hx : A.eval x = .int .i64 p) (hy : A.eval y = .int .i64 u) : (execOp A.eval o).run P w = .ok (.value (.int .i64 (max p u))) w := by
  unfold execOp
  have e : max p u = if p < u then u else p := by
    split
    · exact Int.max_eq_right (by omega)
    · exact Int.max_eq_left (by omega)
  rw [e]
  simp only [ho, resolve, invoke, builtin, Sem.run_bind, Sem.run_pure, Result.andThen_ok, List.map_toArray, List.map_cons, List.map_nil, hx, hy]
  simp [Builtin.max_, Builtin.max2]
theorem wp_pure (v : Value) (h : (execOp A.eval o).run P w = .ok (.value v) w) (hφ : φ v w) : o.wp P A w (fun a' w' => ∃ v, a' = A.put o.dst v ∧ w' = w ∧ φ v w) R := by
  unfold Oper.wp
  rw [h]
  exact ⟨v, rfl, rfl, hφ⟩
/-- a call that may write -/
theorem wp_callW {f : FuncId} {fn : Func} {args : Array Operand} {ts : Array TypeId} {Post : Value → World → Prop} (vals : Array Value) (ho : o.op = .call { callee := .value (.func f), args := args, argTypes := ts }) (ha : args.map A.eval = vals)
    (hfn : P.funcs[f]? = some fn) (hn : (fn.name == "runtime.NumGoroutine") = false) (hb : fn.body.isNone = false) (hc : Calls P f vals w fun e w' => ∃ v, e = .returned v ∧ Post v w') : o.wp P A w (fun a' w' => ∃ v, a' = A.put o.dst v ∧ Post v w') R := by
  have hr : (execOp A.eval o).run P w = .ok (.enter f vals) w := by
    have e : execOp A.eval o = callFunc f (#[] ++ args.map A.eval ++ #[]) := by
      unfold execOp
      rw [ho]
      rfl
    have hn' : ¬ fn.name = "runtime.NumGoroutine" := by simpa using hn
    have hb' : ¬ fn.body = none := fun h => by rw [h] at hb; cases hb
    rw [e, ha]
    simp [callFunc, hfn, hn', hb']
  unfold Oper.wp
  rw [hr]
  refine hc.mono fun e w' ⟨v, he, hφ⟩ => ?_
  subst he
  exact ⟨v, rfl, hφ⟩
theorem invoke_method (x : Value) (name : String) (cap vals : Array Value) : invoke (.fn (.method name) cap) (#[x] ++ vals) = callMethod x name vals := by
  have e1 : (#[x] ++ vals).extract 1 (#[x] ++ vals).size = vals := by
    apply Array.ext'
    simp [List.take_of_length_le]
  have e0 : (#[x] ++ vals)[0]? = some x := by rw [Array.getElem?_append_left (by simp)]; rfl
  unfold invoke
  dsimp only
  rw [e0, e1]
/-- a call through an interface value -/
theorem wp_invoke {recv : Operand} {name : String} {args : Array Operand} {ts : Array TypeId} {ty : TypeId} {v : Value} {f : FuncId} {rcv : Value} {F : Nat} {K : Act → World → Prop} (ho : o.op = .call { callee := .invoke recv name, args := args, argTypes := ts }) (hr : A.eval recv = .iface ty v) (hF : P.types.size + Made.depth = F)
    (hm : ∀ w, (method F ty v name).run P w = .ok (f, rcv) w) (he : ∀ args w, (callFunc f args).run P w = .ok (.enter f args) w) (vals : Array Value) (ha : args.map A.eval = vals) (hc : Calls P f (#[rcv] ++ vals) w fun e w' => ∃ v, e = .returned v ∧ K (A.put o.dst v) w') :
    o.wp P A w (fun a' w' => ∃ v, a' = A.put o.dst v ∧ K a' w') R := by
  have hx : (execOp A.eval o).run P w = .ok (.enter f (#[rcv] ++ vals)) w := by
    unfold execOp
    subst hF
    simp only [ho, resolve, Sem.run_bind, Sem.run_pure, Result.andThen_ok]
    rw [ha, invoke_method, hr, callMethod]
    show Sem.run P (do
      let p ← program
      let (f, receiver) ← method (p.types.size + Made.depth) ty v name
      callFunc f (#[receiver] ++ vals)) w = _
    rw [Sem.run_bind]
    have hp : (program : Sem Program).run P w = .ok P w := rfl
    rw [hp]
    simp only [Result.andThen_ok]
    rw [Sem.run_bind, hm]
    simp only [Result.andThen_ok, he]
  unfold Oper.wp
  rw [hx]
  refine hc.mono fun e w' ⟨v, he', hK⟩ => ?_
  subst he'
  exact ⟨v, rfl, hK⟩
/-- a store of one value, the last operation -/
theorem wp_store {ty : TypeId} {x y : Operand} {b off : Nat} {v u : Value} {K : Act → World → Prop} (ho : o.op = .store ty x y) (hx : A.eval x = .pointer (some ⟨b, off, none⟩)) (hy : A.eval y = v) (hd : o.dst = none) (hsz : (P.info? ty).map (·.size) = some 1) (h1 : v.cells = #[v]) (h2 : v.oneCell' = true) (hc : w.cell? ⟨b, off, none⟩ = some u) (hz : w.frozen? ⟨b, off, none⟩ = false) (hK : K A (w.setCell ⟨b, off, none⟩ v)) :
    o.wp P A w (fun a' w' => ∃ v, a' = A.put o.dst v ∧ K a' w') R := by
  have hst : (store ⟨b, off, none⟩ v).run P w = .ok () (w.setCell ⟨b, off, none⟩ v) := by
    rw [run_store P w _ v _ h2, hc]
    simp [hz]
  have e : (execOp A.eval o).run P w = .ok .skip (w.setCell ⟨b, off, none⟩ v) := by
    unfold execOp
    obtain ⟨i, hi, hs⟩ := Option.map_eq_some_iff.1 hsz
    simp [ho, hx, hy, Instr.storeAt, Instr.sureAddr, storeVar, h1, storeCells, hst, Sem.run_bind, sizeOf, typeInfo, hi, hs, Addr.add]
  unfold Oper.wp
  rw [e]
  exact ⟨undef, rfl, by rw [hd]; exact hK⟩
end
section
variable {P : Program} {R : Exit → Act → World → Prop} {l : List Oper} {a : Act} {w0 : World} {φ : Nat → Value → World → Prop} {Post : Value → World → Prop} {c : Nat} {pu : List Nat} {k : Nat} {o : Oper}
theorem StepK.g (e : kindOf c pu k = 0) (h : StepG P R l a w0 φ k o) : StepK P R l a w0 φ Post c pu k o := ⟨fun e' => (by rw [e] at e'; cases e'), fun e' => (by rw [e] at e'; cases e'), fun _ => h⟩
theorem StepK.p (e : kindOf c pu k = 1) (h : StepP P R l a φ c pu k o) : StepK P R l a w0 φ Post c pu k o := ⟨fun e' => (by rw [e] at e'; cases e'), fun _ => h, fun e' => (by rw [e] at e'; cases e')⟩
theorem StepK.w (e : kindOf c pu k = 2) (h : StepC P R l a w0 φ Post k o) : StepK P R l a w0 φ Post c pu k o := ⟨fun _ => h, fun e' => (by rw [e] at e'; cases e'), fun e' => (by rw [e] at e'; cases e')⟩
end
def isV (c : Value) : Value → World → Prop := fun v _ => v = c
theorem mono_isV (c : Value) : Mono (isV c) := fun _ _ _ h _ => h
end Ri
end Go.Proofs.Ytbgbalfhbficaaa
