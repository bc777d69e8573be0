/- The relation 'everything that was there is as it was' between two worlds, and small words for walks. Conditions: none. -/
import Derived.Below
import Derived.Deep.Draws
import Derived.WalkKit
import Derived.BigQuiet
import Derived.Laws.CopyOwn
import Derived.Laws.Rows
import Derived.Laws.ResultCell
namespace Go.Proofs.Ytfiopjgpokdnoaa
open Go.RowKit

/-- whatever was in memory is as it was; there may be new blocks. -/
def Q (w w' : World) : Prop := Below w.heap.size w w'
theorem Q.below {w w' : World} (h : Q w w') : Below w.heap.size w w' := h
theorem Q.refl (w : World) : Q w w := Below.refl _ _
theorem Q.size {a b : World} (h : Q a b) : a.heap.size ≤ b.heap.size := Below.size h
theorem Q.trans {a b c : World} (h : Q a b) (k : Q b c) : Q a c := Below.trans h (Below.mono k h.size)
theorem Q.alloc {a w : World} (h : Q a w) (o : Obj) : Q a (w.alloc o) := Below.alloc h h.size o
theorem Q.drew {a w : World} (h : Q a w) : Q a w.drew := Below.drew h
theorem Q.drewN {a w : World} (h : Q a w) (n : Nat) : Q a (w.drewN n) := ⟨h.below.os, h.below.tape, h.below.output, h.below.size, h.below.block⟩
theorem Q.set {a w : World} (h : Q a w) {p : Addr} (hp : a.heap.size ≤ p.block) (u : Value) : Q a (w.setCell p u) := Below.setCell h hp u
theorem Q.facts {a w : World} (h : Q a w) : (∀ b o, b < a.heap.size → w.cell? ⟨b, o, none⟩ = a.cell? ⟨b, o, none⟩) ∧ (∀ b o, b < a.heap.size → w.frozen? ⟨b, o, none⟩ = a.frozen? ⟨b, o, none⟩) ∧ a.heap.size ≤ w.heap.size :=
  ⟨fun b o hb => Below.cell h (p := ⟨b, o, none⟩) hb, fun b o hb => Below.frozen h (p := ⟨b, o, none⟩) hb, h.size⟩

theorem Q.setRow {a w : World} (h : Q a w) {g : Nat} (hg : a.heap.size ≤ g) (cs : Array Value) : Q a (w.setRow g cs) := below_setRow h hg cs
/-- one result, which lies in memory -/
theorem results_cell1 {fn : Func} {p : Tmp} {ty : TypeId} (h : fn.results = #[.cell p ty]) (tmps : Array Value) (P : Program) (w : World) (a : Addr) (v : Value)
    (ha : tmps.getD p undef = .pointer (some a)) (hv : (loadVar ty a).run P w = .ok v w) : (results fn tmps).run P w = .ok v w := by
  simp only [results, h]
  have hb : tmps[p]?.getD undef = .pointer (some a) := by simpa using ha
  simp [hb, asAddr, hv]
theorem hide {p : Prop} (h : p) : Hid p := h
theorem unhide {p : Prop} (h : Hid p) : p := h
theorem ret_int {k : IntKind} {a b : Int} (h : a = b) : Ending.returned (.int k a) = .returned (.int k b) := by rw [h]
theorem ret_bool {a b : Bool} (h : a = b) : Ending.returned (.bool a) = .returned (.bool b) := by rw [h]

/-! A region that draws its order, whose operations read and whose callees make at most new memory: walked once, in the order of the text. -/
open Classical in
/-- 'k', if it is W with new memory; else W. So 'w = ext W k' for some k says 'Q W w'. -/
noncomputable def ext (W k : World) : World := if Q W k then k else W
theorem q_ext (W k : World) : Q W (ext W k) := by
  unfold ext; split
  · assumption
  · exact Q.refl _
theorem ext_of_q {W w : World} (h : Q W w) : ∃ k, w = ext W k := ⟨w, by unfold ext; rw [if_pos h]⟩
theorem q_of_ext {W w : World} (h : ∃ k, w = ext W k) : Q W w := by obtain ⟨k, rfl⟩ := h; exact q_ext _ _
theorem ext_cell (W : World) : ∀ (k : World) (b o : Nat), b < W.heap.size → (ext W k).cell? ⟨b, o, none⟩ = W.cell? ⟨b, o, none⟩ := fun k b o h => (q_ext W k).facts.1 b o h
theorem ext_size (W k : World) : W.heap.size ≤ (ext W k).heap.size := (q_ext W k).size
theorem wp_region_ext {P : Program} {id : Nat} {R : Exit → Act → World → Prop} {a : Act} {w : World} {l : List Oper} (hm : P.follows .mixedOrders = true) (hB : Region.lexB .any l.toArray = true)
    (h : wpQuiet P l.toArray (fun w' => ∃ k, w' = ext w k) (fun a' => ∀ w', (∃ k, w' = ext w k) → R .normal a' w') l a) : (Code.region id l.toArray true).wp P R a w :=
  wp_region_quiet (C := fun w' => ∃ k, w' = ext w k) hm hB (ext_of_q (Q.refl w).drew) (by simpa using h)
/-- a callee's contract, met within such a region -/
theorem ext_call {P : Program} {f : FuncId} {args : Array Value} {W k : World} {v : Value} (h : Calls P f args (ext W k) fun e w' => e = .returned v ∧ Q (ext W k) w') :
    Calls P f args (ext W k) fun e w'' => e = .returned v ∧ ∃ k', w'' = ext W k' :=
  h.mono fun _ _ ⟨he, hq⟩ => ⟨he, ext_of_q ((q_ext W k).trans hq)⟩
theorem ext_call' {P : Program} {f : FuncId} {args : Array Value} {W k : World} {v : Value} (h : Calls P f args (ext W k) fun e w' => e = .returned v ∧ ext W k = w') :
    Calls P f args (ext W k) fun e w'' => e = .returned v ∧ ∃ k', w'' = ext W k' :=
  h.mono fun _ _ ⟨he, hq⟩ => ⟨he, k, hq.symm⟩
end Go.Proofs.Ytfiopjgpokdnoaa
