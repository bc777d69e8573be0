/- The map of places: whatever was noted lies ahead. Conditions: as each theorem says. -/
import Derived.Test.YtfiopjgpokdnoaaPackPb
import Derived.Test.YtfiopjgpokdnoaaCp
import Derived.DeepKeys4
import Derived.WideKeyPair
import Derived.Maps.OwnSet
namespace Go.Proofs.Ytfiopjgpokdnoaa
open Go.RowKit PP Go.WideMaps Go.WideElems
set_option linter.unusedVariables false
set_option linter.unusedSimpArgs false
theorem p_laid : laidOutB Try.prog = true := by kernel_rfl
theorem p_row : 92 < Try.prog.types.size := of_decide_eq_true (by kernel_rfl)
theorem p_wide : (match Try.prog.underlying 92 with | some (.array _ _) | some (.struct _) => true | _ => false) = true := by rw [Try.underlying92]
theorem p_law : KeyLaw Try.prog 92 := deep_law_laid p_laid (m := 2) (by omega) p_row (by kernel_rfl) p_wide
theorem p_arr : ArrKey Try.prog 92 5 3 := ⟨Try.underlying92, by kernel_rfl, by kernel_rfl, by kernel_rfl⟩
theorem p_types : ∃ m, Try.prog.types.size = m + 1 := ⟨Try.prog.types.size - 1, by have := p_row; omega⟩
def key3 (x y z : Nat) : Value := .agg #[.int .u8 x, .int .u8 y, .int .u8 z]
theorem wf8 {x : Nat} (h : x < 256) : (Lit.int .u8 (x : Int)).wf = true := by
  simp [Lit.wf, IntKind.min, IntKind.max, IntKind.wrap, IntKind.bits, IntKind.signed]
  omega
theorem keyOf_three {x y z : Nat} (hx : x < 256) (hy : y < 256) (hz : z < 256) : ∃ kl, keyOf Try.prog 92 (key3 x y z) = some kl := by
  refine ⟨.string (keyBytes [.int .u8 x, .int .u8 y, .int .u8 z]), ?_⟩
  have A := p_arr
  have hkt := A.keyType p_types
  obtain ⟨m, hm⟩ := p_types
  have wx := wf8 hx
  have wy := wf8 hy
  have wz := wf8 hz
  unfold keyOf key3
  simp only [A.hu]
  rw [if_pos (by simp [hkt, Value.formed, A.hu, A.size]), hm]
  unfold Program.keyLits
  simp only [A.hu, Value.cells]
  rw [if_pos (by rw [A.size]; rfl), show List.range 3 = [0, 1, 2] from rfl, List.mapM_cons, List.mapM_cons, List.mapM_cons, List.mapM_nil]
  simp [A.one, Program.keyLits, Try.underlying5, wx, wy, wz]
/-- the last places at which three bytes stood: each is a place ahead (counted from 1 on), or 0 -/
def ChainOk (B : Nat) (v : Value) : Prop := ∃ a b c d : Nat, v = .agg #[.int .i64 a, .int .i64 b, .int .i64 c, .int .i64 d] ∧ a ≤ B ∧ b ≤ B ∧ c ≤ B ∧ d ≤ B
open Classical in
noncomputable def rb (B : Nat) (v : Value) : Option (DataW Unit × List MemPlace) := if ChainOk B v then some (.nil, []) else none
theorem rb_ok {B : Nat} {v : Value} (h : ChainOk B v) : rb B v = some (.nil, []) := by unfold rb; rw [if_pos h]
theorem rb_inv {B : Nat} {v : Value} {z : DataW Unit × List MemPlace} (h : rb B v = some z) : ChainOk B v ∧ z = (.nil, []) := by
  unfold rb at h
  split at h
  · rename_i hc
    exact ⟨hc, (Option.some.inj h).symm⟩
  · cases h
theorem ChainOk.mono {B B' : Nat} {v : Value} (h : ChainOk B v) (hB : B ≤ B') : ChainOk B' v := by
  obtain ⟨a, b, c, d, e, h1, h2, h3, h4⟩ := h
  exact ⟨a, b, c, d, e, by omega, by omega, by omega, by omega⟩
theorem chain_zero (w : World) : (zeroValue 91).run Try.prog w = .ok (.agg #[.int .i64 0, .int .i64 0, .int .i64 0, .int .i64 0]) w := by kernel_rfl
/-- the map of the places ahead of B -/
def FM (w : World) (mb B : Nat) : Prop := ∃ n D, w.ownsMap Try.prog 92 (rb B) mb n D ∧ n ≤ B
theorem FM.mono {w : World} {mb B B' : Nat} (h : FM w mb B) (hB : B ≤ B') : FM w mb B' := by
  obtain ⟨n, D, ⟨es, clock, e, F, hs, hD⟩, hn⟩ := h
  obtain ⟨F', e1, -⟩ := F.stay (R' := rb B') (fun x _ z hz => by
    obtain ⟨h1, rfl⟩ := rb_inv hz
    exact rb_ok (h1.mono hB))
  exact ⟨n, D, ⟨es, clock, e, F', hs, by rw [hD, e1]⟩, by omega⟩
theorem FM.kept {w w' : World} {mb B : Nat} (h : FM w mb B) (hk : w'.heap[mb]? = w.heap[mb]?) : FM w' mb B := by
  obtain ⟨n, D, ⟨es, clock, e, F, hs, hD⟩, hn⟩ := h
  exact ⟨n, D, ⟨es, clock, hk.trans e, F, hs, hD⟩, hn⟩
theorem FM.lt {w : World} {mb B : Nat} (h : FM w mb B) : mb < w.heap.size := by
  obtain ⟨n, D, ho, hn⟩ := h
  exact ho.lt
theorem FM.made (w : World) : FM (w.alloc (.map #[] 0)) w.heap.size 0 := ⟨0, _, World.ownsMap_made w _ _ _, Nat.le_refl _⟩
section
variable {w : World} {mb B B' : Nat} {ops : Array Oper} {rest : List Oper} {o : Oper} {a : Act} {Q' : Exit → Act → World → Prop}
theorem wpList_lookC (hg : o.guard = none) (m x : Operand) (hop : o.op = Op.lookup 77 m x false) (hm : a.eval m = .map (some mb)) (F : FM w mb B) {k1 k2 k3 : Nat} (hx : a.eval x = key3 k1 k2 k3) (h1 : k1 < 256) (h2 : k2 < 256) (h3 : k3 < 256)
    (hK : ∀ v, ChainOk B v → wpList Try.prog ops Q' rest (a.put o.dst v) w) : wpList Try.prog ops Q' (o :: rest) a w := by
  obtain ⟨n, D, hown, hn⟩ := F
  obtain ⟨kl, hkl⟩ := keyOf_three h1 h2 h3
  obtain ⟨v, ps, hrun, hv⟩ := hown.lookup (Go.Maps.Keyed.of_law p_law) Try.underlying77 (chain_zero w) (rb_ok ⟨0, 0, 0, 0, rfl, by omega, by omega, by omega, by omega⟩) hkl
  refine wpList_plain hg fun K' hK' => ?_
  unfold Oper.wp
  simp [execOp, hop, hm, hx, hrun, Result.andThen]
  exact hK' _ _ (hK v (rb_inv hv).1)
theorem wpList_updC (hg : o.guard = none) (m x v : Operand) (hop : o.op = Op.mapUpdate 77 m x v) (hm : a.eval m = .map (some mb)) (F : FM w mb B) (hB : B + 1 ≤ B') (hB2 : B' ≤ 100000) {k1 k2 k3 : Nat} (hx : a.eval x = key3 k1 k2 k3) (h1 : k1 < 256) (h2 : k2 < 256) (h3 : k3 < 256) (hv : ChainOk B' (a.eval v))
    (hK : ∀ w', FM w' mb B' → w.grownBy w' (some mb) → wpList Try.prog ops Q' rest (a.put o.dst undef) w') : wpList Try.prog ops Q' (o :: rest) a w := by
  obtain ⟨n, D, hown, hn⟩ := F
  obtain ⟨kl, hkl⟩ := keyOf_three h1 h2 h3
  have hown2 : w.ownsMap Try.prog 92 (rb B') mb n D := by
    obtain ⟨es, clock, e, F, hs, hD⟩ := hown
    obtain ⟨F', e1, -⟩ := F.stay (R' := rb B') (fun x _ z hz => by
      obtain ⟨h1, rfl⟩ := rb_inv hz
      exact rb_ok (h1.mono (by omega)))
    exact ⟨es, clock, e, F', hs, by rw [hD, e1]⟩
  exact wpList_mapUpdate_own w hg m x v _ hop _ _ (Go.Maps.Keyed.of_law p_law) Try.underlying77 (rb B') mb n D hm hown2 (by unfold maxLen; omega) _ _ kl hx rfl hkl .nil [] (rb_ok hv) fun w' a1 a2 => hK w' ⟨n + 1, _, a1, by omega⟩ a2
end
end Go.Proofs.Ytfiopjgpokdnoaa
