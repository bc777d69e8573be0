/- The map of symbols: what it holds as a list of names and places. Conditions: as each theorem says. -/
import Derived.Test.YtjdioilkhbpmoaaLinkE
import Derived.Maps.OwnSet
import Derived.StringKeys
namespace Go.Proofs.Ytjdioilkhbpmoaa
open Go.RowKit LK
set_option linter.unusedVariables false
def plV (a b : Int) : Value := .agg #[.int .i64 a, .int .i64 b]
def plD (a b : Int) : DataW Unit := .agg [.lit (.int .i64 a), .lit (.int .i64 b)]
def plR (v : Value) : Option (DataW Unit × List MemPlace) :=
  match v with
  | .agg cs => match cs.toList with
    | [.int .i64 a, .int .i64 b] => some (plD a b, [])
    | _ => none
  | _ => none
theorem plR_mk (a b : Int) : plR (plV a b) = some (plD a b, []) := rfl
theorem plR_inv {v : Value} {z : DataW Unit × List MemPlace} (h : plR v = some z) : ∃ a b, v = plV a b ∧ z = (plD a b, []) := by
  unfold plR at h
  split at h
  · rename_i cs
    split at h
    · rename_i a b e
      cases h
      refine ⟨a, b, ?_, rfl⟩
      unfold plV
      congr 1
      exact Array.ext' (by simpa using e)
    · cases h
  · cases h
theorem plD_inj {a b c d : Int} (h : plD a b = plD c d) : a = c ∧ b = d := by
  unfold plD at h
  simpa using h
theorem lookS_nil (s : ByteArray) : lookS [] s = none := rfl
theorem lookS_snoc (t : List (ByteArray × Int × Int)) (x : ByteArray) (p q : Int) (s : ByteArray) : lookS (t ++ [(x, p, q)]) s = (lookS t s).or (if x.toList == s.toList then some (p, q) else none) := by
  unfold lookS
  rw [List.find?_append]
  cases t.find? (fun x => x.1.toList == s.toList) with
  | some y => simp
  | none =>
    simp only [Option.none_or, List.find?_cons, List.find?_nil, Option.map_none]
    cases h : x.toList == s.toList <;> simp
def atD (o : Option (Int × Int)) : DataW Unit := match o with | some (a, b) => plD a b | none => plD 0 0
def atV (o : Option (Int × Int)) : Value := match o with | some (a, b) => plV a b | none => plV 0 0
theorem atD_inj {o : Option (Int × Int)} {a b : Int} (h : plD a b = atD o) : plV a b = atV o := by
  rcases o with _ | ⟨c, d⟩
  · obtain ⟨rfl, rfl⟩ := plD_inj h; rfl
  · obtain ⟨rfl, rfl⟩ := plD_inj h; rfl
/-- block mb is a map that holds a list of names with places -/
def MpR (w : World) (mb : Nat) (t : List (ByteArray × Int × Int)) : Prop :=
  ∃ (m : Nat) (D : DataW Unit), w.ownsMap Try.prog 9 plR mb m D ∧ m ≤ t.length ∧ Maps.IsMap D ∧ ∀ s : ByteArray, Maps.has D (.string s.data.toList) = (lookS t s).isSome ∧ D.atKey (.string s.data.toList) (plD 0 0) = atD (lookS t s)
theorem MpR.made (w : World) : MpR (w.alloc (.map #[] 0)) w.heap.size [] :=
  ⟨0, .map [], World.ownsMap_made w _ _ _, Nat.le_refl _, Maps.isMap_empty, fun s => ⟨rfl, rfl⟩⟩
theorem MpR.kept {w w' : World} {mb : Nat} {t : List (ByteArray × Int × Int)} (h : MpR w mb t) {row : Option Nat} (hg : w.grownBy w' row) (hne : some mb ≠ row) : MpR w' mb t := by
  obtain ⟨m, D, h1, h2⟩ := h
  exact ⟨m, D, h1.kept hg hne, h2⟩
theorem grown_of_q {a b : World} (h : Q a b) (row : Option Nat) : a.grownBy b row := ⟨h.below.os, h.below.tape, h.below.output, h.size, fun i hi _ => h.below.block i hi⟩
theorem MpR.up {w w' : World} {mb : Nat} {t : List (ByteArray × Int × Int)} (h : MpR w mb t) (hq : Q w w') : MpR w' mb t := h.kept (grown_of_q hq none) (by simp)
theorem MpR.lt {w : World} {mb : Nat} {t : List (ByteArray × Int × Int)} (h : MpR w mb t) : mb < w.heap.size := by
  obtain ⟨m, D, h1, h2⟩ := h
  exact h1.lt
theorem keyS : Maps.Keyed Try.prog 9 := Maps.Keyed.of_law (Go.WideMaps.string_law Try.underlying9)
theorem zeroP (w : World) : (zeroValue 83).run Try.prog w = .ok (plV 0 0) w := by kernel_rfl
section
variable {w : World} {ops : Array Oper} {rest : List Oper} {o : Oper} {a : Act} {Q' : Exit → Act → World → Prop} {mb : Nat} {t : List (ByteArray × Int × Int)}
theorem wpList_lookP (hg : o.guard = none) (m x : Operand) (hop : o.op = Op.lookup 75 m x true) (hm : a.eval m = .map (some mb)) (hM : MpR w mb t) (s : ByteArray) (hx : a.eval x = .string s) (hs : s.size ≤ 9223372036854775807)
    (hK : wpList Try.prog ops Q' rest (a.put o.dst (.tuple #[atV (lookS t s), .bool (lookS t s).isSome])) w) : wpList Try.prog ops Q' (o :: rest) a w := by
  obtain ⟨n, D, hown, _, _, hD⟩ := hM
  refine wpList_lookup_own_ok w hg m x _ hop _ _ keyS Try.underlying75 plR (zeroP w) (plD 0 0) [] (plR_mk 0 0) mb n D hm hown (.string s) _ hx (Go.WideMaps.keyOf_string_mk Try.underlying9 (by unfold maxLen; omega)) (fun v ps hv => ?_)
  rw [(hD s).2] at hv
  rw [(hD s).1]
  obtain ⟨p, q, rfl, e⟩ := plR_inv hv
  rw [atD_inj (Prod.ext_iff.1 e).1.symm]
  exact hK
theorem wpList_updP (hg : o.guard = none) (m x v : Operand) (hop : o.op = Op.mapUpdate 75 m x v) (hm : a.eval m = .map (some mb)) (hM : MpR w mb t) (hl : t.length ≤ 100000) (s : ByteArray) (hx : a.eval x = .string s) (hs : s.size ≤ 9223372036854775807) (p q : Int) (hv : a.eval v = .agg #[.int .i64 p, .int .i64 q]) (hno : lookS t s = none)
    (hK : ∀ w', MpR w' mb (t ++ [(s, p, q)]) → w.grownBy w' (some mb) → wpList Try.prog ops Q' rest (a.put o.dst undef) w') : wpList Try.prog ops Q' (o :: rest) a w := by
  obtain ⟨n, D, hown, hn, hmap, hD⟩ := hM
  refine wpList_mapUpdate_own w hg m x v _ hop _ _ keyS Try.underlying75 plR mb n D hm hown (by unfold maxLen; omega) (.string s) (plV p q) _ hx hv (Go.WideMaps.keyOf_string_mk Try.underlying9 (by unfold maxLen; omega)) (plD p q) [] (plR_mk p q) (fun w' h1 h2 => hK w' ⟨n + 1, _, h1, by simp; omega, hmap.put _ _, fun s' => ?_⟩ h2)
  rw [lookS_snoc]
  by_cases e : s.data.toList = s'.data.toList
  · have e2 : lookS t s' = none := by
      rw [← hno]
      unfold lookS
      congr 2
      funext x
      rw [ByteArray.toList_eq s, ByteArray.toList_eq s', e]
    have e3 : (s.toList == s'.toList) = true := by rw [ByteArray.toList_eq, ByteArray.toList_eq, e]; simp
    rw [e2, e3, ← e]
    have hk : WideAt.IsKeyLit (.string s.data.toList) := trivial
    exact ⟨Maps.has_put_same hmap hk _, Maps.atKey_put_same hmap hk _ _⟩
  · have e3 : (s.toList == s'.toList) = false := by rw [ByteArray.toList_eq, ByteArray.toList_eq]; simpa using e
    have hne : (Lit.string s'.data.toList) ≠ Lit.string s.data.toList := fun h => e (by simpa using h.symm)
    rw [e3, Maps.has_put_other hne, Maps.atKey_put_other hne]
    simpa using hD s'
end
end Go.Proofs.Ytjdioilkhbpmoaa
