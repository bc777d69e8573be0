/- A law's argument that is a list of tokens, told as the walks want it, with the sizes of the tokens' texts. Conditions: as the theorem says. -/
import Derived.Test.YtofigpjabamnhaaLexO
namespace Go.Proofs.Ytofigpjabamnhaa.Open
open Go.ChangeShapes Go.WideShapes Go.ChangeAt Go.RowKit LX
set_option linter.unusedVariables false
variable {H : Type} {enc : TypeId × Value → H} {w : World}
theorem weightsAll_mem {P : Program} {e : TypeId} : ∀ {l : List (DataW H)} {d : DataW H}, d ∈ l → ∀ n ∈ d.weights P e, n ∈ DataW.weightsAll P e l
  | d' :: r, d, hd, n, hn => by
    simp only [DataW.weightsAll, List.mem_append]
    rcases List.mem_cons.1 hd with rfl | h
    · exact Or.inl hn
    · exact Or.inr (weightsAll_mem h n hn)
theorem tok_cells2 {n : Nat} {cs : List Value} {x : DataW H × List MemPlace} (h : DataW.trod enc Try.prog w 0 (fun _ => true) true n 38 cs = some x) : ∃ (g : G) (d0 d1 : DataW H), cs = gcells g ∧ x.1 = .agg [d0, d1, .lit (.string g.2.2.data.toList)] := by
  obtain ⟨xs, k, hk, hxy, hcl, hxl, hf⟩ := DataW.trod_struct Try.underlying38 h
  have hc3 : Try.prog.cellsOf 38 = 3 := by kernel_rfl
  rw [hc3] at hcl
  have g0 := hf 0 _ rfl
  have g1 := hf 1 _ rfl
  have g2 := hf 2 _ rfl
  have c1 : Try.prog.cellsOf 3 = 1 := by kernel_rfl
  have c9 : Try.prog.cellsOf 9 = 1 := by kernel_rfl
  match cs, hcl with
  | [v0, v1, v2], _ =>
    simp [c1, c9] at g0 g1 g2
    rcases xs with _ | ⟨y0, _ | ⟨y1, _ | ⟨y2, _ | ⟨y3, ys⟩⟩⟩⟩
    · simp at hxl
    · simp at hxl
    · simp at hxl
    · simp at g0 g1 g2
      obtain ⟨a0, e0, j0, _⟩ := DataW.trod_int Try.underlying3 g0
      obtain ⟨a1, e1, j1, _⟩ := DataW.trod_int Try.underlying3 g1
      obtain ⟨a2, e2, j2, _⟩ := DataW.trod_string Try.underlying9 g2
      simp at e0 e1 e2
      subst e0 e1 e2
      exact ⟨(a0, a1, a2), y0.1, y1.1, rfl, by rw [hxy, j2]; rfl⟩
    · simp at hxl
theorem toks2 {r : Reach} {b0 : Nat} {v : Value} {d : DataW H} {ps : List MemPlace} (hval : Value.okWide Try.prog w r b0 23 v) (hd : DataW.Trod enc Try.prog w 0 (fun _ => true) true 23 v d ps)
    {ts : List TypeId} {ds : List (DataW H)} (hs : (DataW.weightsEach Try.prog ts ds).all (· ≤ reachBytes) = true) {j : Nat} (htj : ts[j]? = some 23) (hdj : ds[j]? = some d) :
    ∃ (A : Option Addr) (n c : Nat) (gs : List G), v = .slice A n c ∧ GToks w A n c gs ∧ (A = none → n = 0 ∧ c = 0) ∧ (∀ g ∈ gs, g.2.2.size ≤ 140737488351232) := by
  obtain ⟨A, n, c, rfl⟩ := okWide_slice Try.underlying23 hval
  obtain ⟨fuel, hf⟩ := hd
  rcases Go.Deep.open_slice Try.underlying23 hf with ⟨h1, h2⟩ | ⟨a, len, cap, m, k, D, Pl, h1, _, hl, hm, hmm, hx, hcell⟩
  · simp [Value.cells] at h1
    obtain ⟨rfl, rfl, rfl⟩ := h1
    exact ⟨none, 0, 0, [], rfl, ⟨.inl rfl, rfl, Nat.le_refl _, Nat.zero_le _⟩, fun _ => ⟨rfl, rfl⟩, by simp⟩
  · simp [Value.cells] at h1
    obtain ⟨rfl, rfl, rfl⟩ := h1
    simp only [if_true] at hmm
    have hc3 : Try.prog.cellsOf 38 = 3 := by kernel_rfl
    have hcl := cap_le (c := c) hs htj hdj Try.underlying23 (.inr ⟨_, _, (Prod.ext_iff.1 hx).1, by simp; omega⟩)
    have hb : Try.prog.bytesOf 38 = 32 := by kernel_rfl
    rw [hb] at hcl
    rw [hc3] at hcell
    have hds : d = .slice ((List.range n).map D) ((List.range (m - n)).map fun j => D (n + j)) := (Prod.ext_iff.1 hx).1
    have hfs := Try.underlying38
    obtain ⟨q, hq0⟩ := choose_fn (α := G) (p := fun i g => w.cells? 0 (a.add (i * 3)) 3 = some (gcells g) ∧ g.2.2.size ≤ 140737488351232) (n := n) (fun i hi => by
      obtain ⟨cs', e1, e2⟩ := hcell i (by omega)
      obtain ⟨g, d0, d1, rfl, ed⟩ := tok_cells2 e2
      refine ⟨g, e1, ?_⟩
      have hw := of_decide_eq_true (List.all_eq_true.1 hs g.2.2.size (DataW.weights_mem_each htj hdj _ (by
        rw [hds]
        simp only [DataW.weights, Try.underlying23, List.mem_cons, List.mem_append]
        refine .inr (.inl (weightsAll_mem (d := D i) (List.mem_map.2 ⟨i, by simp [hi], rfl⟩) _ ?_))
        simp only at ed
        rw [ed]
        simp only [DataW.weights, hfs]
        simp [DataW.weightsEach, DataW.weights])))
      exact hw)
    have hq : ∀ i, i < n → w.cells? 0 (a.add (i * 3)) 3 = some (gcells (q i)) := fun i hi => (hq0 i hi).1
    have hszs : ∀ g ∈ (List.range n).map q, g.2.2.size ≤ 140737488351232 := by
      intro g hg
      obtain ⟨i, hi, rfl⟩ := List.mem_map.1 hg
      exact (hq0 i (by simpa using hi)).2
    have hlen : (gflat ((List.range n).map q)).length = n * 3 := by rw [gflat_length]; simp
    refine ⟨some a, n, c, (List.range n).map q, rfl, ⟨rd_of_cells ?_, by simp, hl, by omega⟩, fun h => (by cases h), hszs⟩
    intro i hi
    rw [hlen] at hi
    have hi3 : i / 3 < n := by omega
    obtain ⟨_, _, hc⟩ := World.cells?_some (hq (i / 3) hi3)
    have h3 := hc (i % 3) (by omega)
    rw [Go.Deep.add_add, show i / 3 * 3 + i % 3 = i by omega] at h3
    rw [h3]
    have hg := gflat_get ((List.range n).map q) (i / 3) (q (i / 3)).1 (q (i / 3)).2.1 (q (i / 3)).2.2 (by simp [hi3])
    rw [← List.getElem?_eq_getElem]
    have hm : i % 3 = 0 ∨ i % 3 = 1 ∨ i % 3 = 2 := by omega
    rcases hm with h | h | h
    · rw [h, show i = i / 3 * 3 by omega, hg.1, show i / 3 * 3 / 3 = i / 3 by omega]; rfl
    · rw [h]
      conv => rhs; rw [show i = i / 3 * 3 + 1 by omega]
      rw [hg.2.1]; rfl
    · rw [h]
      conv => rhs; rw [show i = i / 3 * 3 + 2 by omega]
      rw [hg.2.2]; rfl
end Go.Proofs.Ytofigpjabamnhaa.Open
