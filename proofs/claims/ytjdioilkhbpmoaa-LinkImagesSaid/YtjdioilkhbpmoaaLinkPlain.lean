/- Objects that are linked, in plain Lean: what is right, where things are. Conditions: none. -/
import Derived.KernelRfl
import Derived.WalkKit
import Derived.Lib.Strings
namespace Go.Proofs.Ytjdioilkhbpmoaa.LK
set_option linter.unusedVariables false
def nat (s : ByteArray) : List Nat := s.data.toList.map UInt8.toNat
theorem nat_length (s : ByteArray) : (nat s).length = s.size := by simp [nat]
theorem nat_get (s : ByteArray) (k : Nat) (h : k < s.size) : (nat s)[k]? = some s[k].toNat := by
  unfold nat
  rw [List.getElem?_map, List.getElem?_eq_getElem (by simpa using h)]
  rfl
theorem nat_inj {a b : ByteArray} (h : nat a = nat b) : a = b := by
  unfold nat at h
  have := List.map_inj_right (f := UInt8.toNat) (fun x y e => UInt8.toNat_inj.1 e) |>.1 h
  obtain ⟨⟨x⟩⟩ := a
  obtain ⟨⟨y⟩⟩ := b
  simp at this
  subst this
  rfl
abbrev Sym := ByteArray × Int
abbrev Wnt := Int × Int × ByteArray
/-- a letter, a digit or '_' -/
def isNC (c : Nat) : Bool := (97 ≤ c && c ≤ 122) || (65 ≤ c && c ≤ 90) || (48 ≤ c && c ≤ 57) || c == 95
def nameB (s : ByteArray) : Bool := (nat s).all isNC && decide (1 ≤ s.size) && decide (s.size ≤ 8)
def symOk (n : Nat) (x : Sym) : Bool := nameB x.1 && decide (0 ≤ x.2) && decide (x.2 ≤ n)
def wntOk (n : Nat) (x : Wnt) : Bool := nameB x.2.2 && decide (0 ≤ x.1) && decide (x.1 ≤ (n : Int) - 4) && decide (0 ≤ x.2.1) && decide (x.2.1 ≤ 1)
def near (x y : Wnt) : Bool := decide (-3 ≤ y.1 - x.1) && decide (y.1 - x.1 ≤ 3)
/-- the wants: each is right, and none is near one before it -/
def wantsOk (n : Nat) : List Wnt → List Wnt → Bool
  | _, [] => true
  | pre, x :: r => wntOk n x && !(pre.any fun y => near y x) && wantsOk n (pre ++ [x]) r
def soundB (n : Nat) (ss : List Sym) (ws : List Wnt) : Bool := ss.all (symOk n) && wantsOk n [] ws
/-- an element of the second list whose name one before it has -/
def dupB : List ByteArray → List ByteArray → Bool
  | _, [] => false
  | pre, x :: r => pre.any (fun y => y.toList == x.toList) || dupB (pre ++ [x]) r
def validF (n : Nat) (ss : List Sym) (ws : List Wnt) : Nat :=
  if 512 < n ∨ 16 < ss.length ∨ 16 < ws.length then 3 else if soundB n ss ws = false then 1 else if dupB [] (ss.map (·.1)) = true then 5 else 0
/-- an object: its bytes, symbols, wants -/
structure Ob where
  b : List Nat
  s : List Sym
  w : List Wnt
def Ob.valid (o : Ob) : Nat := validF o.b.length o.s o.w
def room (n : Nat) : Nat := (n + 23) / 16 * 16
def firstErr : List Ob → Nat
  | [] => 0
  | o :: r => if o.valid = 0 then firstErr r else o.valid
def names (os : List Ob) : List ByteArray := os.flatMap fun o => o.s.map (·.1)
def listedF (os : List Ob) : Nat := if 8 < os.length then 3 else if firstErr os ≠ 0 then firstErr os else if dupB [] (names os) = true then 5 else 0
/-- where objects end that begin at a place, the place first -/
def startsF (at_ : Nat) : List Ob → List Nat
  | [] => [at_]
  | o :: r => at_ :: startsF (at_ + room o.b.length) r
/-- the symbols, with the objects' numbers and the addresses -/
def tab (k at_ : Nat) : List Ob → List (ByteArray × Int × Int)
  | [] => []
  | o :: r => o.s.map (fun x => (x.1, (k : Int), (at_ : Int) + x.2)) ++ tab (k + 1) (at_ + room o.b.length) r
def lookS (t : List (ByteArray × Int × Int)) (s : ByteArray) : Option (Int × Int) := (t.find? fun x => x.1.toList == s.toList).map (·.2)
theorem dupB_append : ∀ (a b pre : List ByteArray), dupB pre (a ++ b) = (dupB pre a || dupB (pre ++ a) b)
  | [], b, pre => by simp [dupB]
  | x :: a, b, pre => by
    rw [List.cons_append, dupB, dupB, dupB_append a b (pre ++ [x])]
    simp [Bool.or_assoc]
end Go.Proofs.Ytjdioilkhbpmoaa.LK
