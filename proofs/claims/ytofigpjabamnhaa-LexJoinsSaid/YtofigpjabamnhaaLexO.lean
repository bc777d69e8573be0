/- A law's argument that is a list of tokens, told as the walks want it. Conditions: as the theorem says. -/
import Derived.Test.YtofigpjabamnhaaLexK
import Derived.Test.YtofigpjabamnhaaOpen
import Derived.Deep.Slices
namespace Go.Proofs.Ytofigpjabamnhaa.Open
open Go.ChangeShapes Go.WideShapes Go.ChangeAt Go.RowKit LX
set_option linter.unusedVariables false
variable {H : Type} {enc : TypeId × Value → H} {w : World}
theorem choose_fn {α : Type} [Inhabited α] {n : Nat} {p : Nat → α → Prop} (h : ∀ i, i < n → ∃ x, p i x) : ∃ f : Nat → α, ∀ i, i < n → p i (f i) := by
  classical
  exact ⟨fun i => if hi : i < n then (h i hi).choose else default, fun i hi => by simp only [hi, dif_pos]; exact (h i hi).choose_spec⟩
theorem tok_cells {n : Nat} {cs : List Value} {x : DataW H × List MemPlace} (h : DataW.trod enc Try.prog w 0 (fun _ => true) true n 38 cs = some x) : ∃ g : G, cs = gcells g := by
  obtain ⟨xs, k, hk, hxy, hcl, hxl, hf⟩ := DataW.trod_struct Try.underlying38 h
  have hc3 : Try.prog.cellsOf 38 = 3 := by kernel_rfl
  rw [hc3] at hcl
  have g0 := hf 0 _ rfl
  have g1 := hf 1 _ rfl
  have g2 := hf 2 _ rfl
  have c1 : Try.prog.cellsOf 3 = 1 := by kernel_rfl
  have c9 : Try.prog.cellsOf 9 = 1 := by kernel_rfl
  match cs, hcl with
  | [v0, v1, v2], _ =>
    simp [c1, c9] at g0 g1 g2
    rcases xs with _ | ⟨y0, _ | ⟨y1, _ | ⟨y2, _ | ⟨y3, ys⟩⟩⟩⟩
    · simp at hxl
    · simp at hxl
    · simp at hxl
    · simp at g0 g1 g2
      obtain ⟨a0, e0, _⟩ := DataW.trod_int Try.underlying3 g0
      obtain ⟨a1, e1, _⟩ := DataW.trod_int Try.underlying3 g1
      obtain ⟨a2, e2, _⟩ := DataW.trod_string Try.underlying9 g2
      simp at e0 e1 e2
      subst e0 e1 e2
      exact ⟨(a0, a1, a2), rfl⟩
    · simp at hxl
theorem toks {r : Reach} {b0 : Nat} {v : Value} {d : DataW H} {ps : List MemPlace} (hval : Value.okWide Try.prog w r b0 23 v) (hd : DataW.Trod enc Try.prog w 0 (fun _ => true) true 23 v d ps)
    {ts : List TypeId} {ds : List (DataW H)} (hs : (DataW.weightsEach Try.prog ts ds).all (· ≤ reachBytes) = true) {j : Nat} (htj : ts[j]? = some 23) (hdj : ds[j]? = some d) :
    ∃ (A : Option Addr) (n c : Nat) (gs : List G), v = .slice A n c ∧ GToks w A n c gs ∧ (A = none → n = 0 ∧ c = 0) := by
  obtain ⟨A, n, c, rfl⟩ := okWide_slice Try.underlying23 hval
  obtain ⟨fuel, hf⟩ := hd
  rcases Go.Deep.open_slice Try.underlying23 hf with ⟨h1, h2⟩ | ⟨a, len, cap, m, k, D, Pl, h1, _, hl, hm, hmm, hx, hcell⟩
  · simp [Value.cells] at h1
    obtain ⟨rfl, rfl, rfl⟩ := h1
    exact ⟨none, 0, 0, [], rfl, ⟨.inl rfl, rfl, Nat.le_refl _, Nat.zero_le _⟩, fun _ => ⟨rfl, rfl⟩⟩
  · simp [Value.cells] at h1
    obtain ⟨rfl, rfl, rfl⟩ := h1
    simp only [if_true] at hmm
    have hc3 : Try.prog.cellsOf 38 = 3 := by kernel_rfl
    have hcl := cap_le (c := c) hs htj hdj Try.underlying23 (.inr ⟨_, _, (Prod.ext_iff.1 hx).1, by simp; omega⟩)
    have hb : Try.prog.bytesOf 38 = 32 := by kernel_rfl
    rw [hb] at hcl
    rw [hc3] at hcell
    obtain ⟨q, hq⟩ := choose_fn (α := G) (p := fun i g => w.cells? 0 (a.add (i * 3)) 3 = some (gcells g)) (n := n) (fun i hi => by
      obtain ⟨cs', e1, e2⟩ := hcell i (by omega)
      obtain ⟨g, rfl⟩ := tok_cells e2
      exact ⟨g, e1⟩)
    have hlen : (gflat ((List.range n).map q)).length = n * 3 := by rw [gflat_length]; simp
    refine ⟨some a, n, c, (List.range n).map q, rfl, ⟨rd_of_cells ?_, by simp, hl, by omega⟩, fun h => by cases h⟩
    intro i hi
    rw [hlen] at hi
    have hi3 : i / 3 < n := by omega
    obtain ⟨_, _, hc⟩ := World.cells?_some (hq (i / 3) hi3)
    have h3 := hc (i % 3) (by omega)
    rw [Go.Deep.add_add, show i / 3 * 3 + i % 3 = i by omega] at h3
    rw [h3]
    have hg := gflat_get ((List.range n).map q) (i / 3) (q (i / 3)).1 (q (i / 3)).2.1 (q (i / 3)).2.2 (by simp [hi3])
    rw [← List.getElem?_eq_getElem]
    have hm : i % 3 = 0 ∨ i % 3 = 1 ∨ i % 3 = 2 := by omega
    rcases hm with h | h | h
    · rw [h, show i = i / 3 * 3 by omega, hg.1, show i / 3 * 3 / 3 = i / 3 by omega]; rfl
    · rw [h]
      conv => rhs; rw [show i = i / 3 * 3 + 1 by omega]
      rw [hg.2.1]; rfl
    · rw [h]
      conv => rhs; rw [show i = i / 3 * 3 + 2 by omega]
      rw [hg.2.2]; rfl
end Go.Proofs.Ytofigpjabamnhaa.Open
