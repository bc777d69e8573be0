/- append to a slice of the call's own, as one step of a region that draws its order. Conditions: as the theorem says. -/
import Derived.Test.YtfiopjgpokdnoaaApp
import Derived.Deep.RegionLaw
namespace Go.Proofs.Ytfiopjgpokdnoaa
open Go.RowKit
set_option linter.unusedVariables false
theorem step_app1 {P : Program} {t e size bytes : Nat} {w : World} {base : Nat} {ops : Array Oper} {o : Oper} {a : Act} {K : Act → World → Prop} {Q' : Exit → Act → World → Prop} {E0 : Prop} {v : Value} {n : Nat} {xs : List Value}
    (hgd : o.guard = none) (E : El P t e size bytes) (s x : Operand) (ho : o.op = .call { callee := .builtin .append, args := #[s, x], argTypes := #[t, t] })
    (hs : a.eval s = v) (hown : w.ownsRow base e size v n xs) {C : Array Value} {k : Nat} (hk : k = w.heap.size) (hx : a.eval x = .slice (some ⟨k, 0, none⟩) 1 1) (hC : C.size = size) (h1 : ∀ u ∈ C.toList, u.oneCell' = true)
    (hb : (n + 1) * bytes ≤ 140737488355328) (hbase : base ≤ w.heap.size)
    (h : ∀ v' w', w'.ownsRow base e size v' (n + 1) (xs ++ C.toList) → Below base w w' → K (a.put o.dst v') w') :
    if Region.wanted o (yielded ops a.tmps) = true then Oper.wp P o a (w.alloc (.cells C e)) K Q' else E0 := by
  have hw : Region.wanted o (yielded ops a.tmps) = true := by simp [Region.wanted, hgd]
  rw [if_pos hw]
  obtain ⟨i, z, hi, hz, hsz, hby, hzs⟩ := E.inf
  subst hk
  have hle : n + 1 ≤ (n + 1) * bytes := Nat.le_mul_of_pos_right _ E.bpos
  refine wp_append_own _ s x t ho base e i z size bytes E.und hi hz hsz hby hzs E.pos v n xs hs (hown.alloc _) ⟨w.heap.size, 0, none⟩ 1 1 C.toList hx (by simpa using hC) (fun j u hu => ?_) h1 (by simp only [maxLen]; omega) hb (by simp; omega) (fun v' w' h2 h3 _ => h v' w' h2 (below_app hown h3 hbase))
  rw [addr_add, Nat.zero_add, World.cell?_alloc_new]
  simpa using hu
end Go.Proofs.Ytfiopjgpokdnoaa
