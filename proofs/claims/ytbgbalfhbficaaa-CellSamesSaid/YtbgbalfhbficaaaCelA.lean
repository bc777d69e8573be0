/- Cells that came in: how they lie, and when two are equal. Conditions: none. -/
import Derived.Test.YtbgbalfhbficaaaRdb
namespace Go.Proofs.Ytbgbalfhbficaaa
open Go.ChangeShapes Go.WideShapes Go.ChangeAt Go.RowKit
set_option linter.unusedVariables false
set_option linter.unusedSimpArgs false
/-- a cell as it lies: its number, its two marks, the slice of its parts and these -/
inductive Cel where
  | mk (n : Int) (nul und : Bool) (A : Option Addr) (len cap : Nat) (parts : List Cel)
instance : Inhabited Cel := ⟨.mk 0 false false none 0 0 []⟩
def encC : Cel → List Value
  | .mk n a b A len cap _ => [.int .i64 n, .bool a, .bool b, .slice A len cap]
theorem len_encC (c : Cel) : (encC c).length = 4 := by cases c; rfl
def Cel.v : Cel → Value
  | .mk n a b A len cap _ => .agg #[.int .i64 n, .bool a, .bool b, .slice A len cap]
def Cel.parts : Cel → List Cel
  | .mk _ _ _ _ _ _ ps => ps
/-- a cell that lies in memory -/
inductive CelR (w : World) : Cel → Prop
  | mk {n : Int} {a b : Bool} {A : Option Addr} {len cap : Nat} {parts : List Cel} : (Lit.int .i64 n).wf = true → Sl 4 encC w A len cap parts → (A = none → len = 0 ∧ cap = 0) → cap ≤ 140737488351232 → (∀ p ∈ parts, CelR w p) → CelR w (.mk n a b A len cap parts)
theorem CelR.up {w w' : World} {c : Cel} (h : CelR w c) (hq : Q w w') : CelR w' c := by
  induction h with
  | mk h1 h2 h3 h4 _ ih => exact .mk h1 (h2.up hq) h3 h4 ih
/-- equal cells -/
def sameC : Cel → Cel → Bool
  | .mk n x y _ _ _ ps, .mk m u v _ _ _ qs => n == m && (x == u && (y == v && (ps.length == qs.length && (ps.attach.zip qs).all fun z => sameC z.1.1 z.2)))
termination_by c => SizeOf.sizeOf c
decreasing_by
  have := List.sizeOf_lt_of_mem z.1.2
  simp
  omega
theorem zip_attach {α β : Type} (f : α → β → Bool) : ∀ (l : List α) (m : List β), ((l.attach.zip m).all fun z => f z.1.1 z.2) = (l.zip m).all fun z => f z.1 z.2 := by
  intro l m
  have e : (l.zip m) = (l.attach.zip m).map fun z => (z.1.1, z.2) := by
    rw [show (fun z : {x // x ∈ l} × β => (z.1.1, z.2)) = Prod.map Subtype.val id from rfl, ← List.zip_map, List.map_id, List.attach_map_subtype_val]
  rw [e, List.all_map]
  rfl
theorem sameC_mk (n : Int) (x y : Bool) (A : Option Addr) (l c : Nat) (ps : List Cel) (m : Int) (u v : Bool) (B : Option Addr) (k d : Nat) (qs : List Cel) :
    sameC (.mk n x y A l c ps) (.mk m u v B k d qs) = (n == m && (x == u && (y == v && (ps.length == qs.length && (ps.zip qs).all fun z => sameC z.1 z.2)))) := by
  rw [sameC, zip_attach]
theorem zip_self {f : Cel → Cel → Bool} : ∀ {l : List Cel}, (∀ p ∈ l, f p p = true) → ((l.zip l).all fun z => f z.1 z.2) = true
  | [], _ => rfl
  | p :: r, h => by
    rw [List.zip_cons_cons, List.all_cons, h p (List.mem_cons_self ..), zip_self fun q hq => h q (List.mem_cons_of_mem _ hq)]
    rfl
theorem sameC_self {w : World} {c : Cel} (h : CelR w c) : sameC c c = true := by
  induction h with
  | mk _ _ _ _ _ ih => rw [sameC_mk, zip_self ih]; simp
/-- the parts up to a place -/
theorem zip_take {f : Cel → Cel → Bool} {ps qs : List Cel} {k : Nat} {p q : Cel} (hp : ps[k]? = some p) (hq : qs[k]? = some q) : ((ps.take (k + 1)).zip (qs.take (k + 1))).all (fun z => f z.1 z.2) = (((ps.take k).zip (qs.take k)).all (fun z => f z.1 z.2) && f p q) := by
  have h1 : ps.take (k + 1) = ps.take k ++ [p] := by rw [List.take_add_one, hp]; rfl
  have h2 : qs.take (k + 1) = qs.take k ++ [q] := by rw [List.take_add_one, hq]; rfl
  have hl : (ps.take k).length = (qs.take k).length := by
    have a := (List.getElem?_eq_some_iff.1 hp).1
    have b := (List.getElem?_eq_some_iff.1 hq).1
    rw [List.length_take, List.length_take]
    omega
  rw [h1, h2, List.zip_append hl, List.all_append]
  simp
theorem zip_bad {f : Cel → Cel → Bool} {ps qs : List Cel} {k : Nat} {p q : Cel} (hp : ps[k]? = some p) (hq : qs[k]? = some q) (h : f p q = false) : (ps.zip qs).all (fun z => f z.1 z.2) = false := by
  rw [List.all_eq_false]
  refine ⟨(p, q), List.mem_of_getElem? (i := k) ?_, by simp [h]⟩
  rw [List.getElem?_zip_eq_some]
  exact ⟨hp, hq⟩
end Go.Proofs.Ytbgbalfhbficaaa
