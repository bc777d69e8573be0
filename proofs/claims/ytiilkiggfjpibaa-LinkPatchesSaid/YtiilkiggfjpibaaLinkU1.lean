/- Objects that are linked, in plain Lean: what is right, where things are. The walks of both isName, and of within. Symbols, wants and objects as they lie in memory; slices.ContainsFunc at the program's closures. The walks of the program's isSound and Validate. The walk of the program's Validate. The walk of the reference's Validate. Conditions: as each theorem says. -/
import Derived.KernelRfl
import Derived.WalkKit
import Derived.Lib.Strings
import Derived.Test.YtiilkiggfjpibaaRows
import Derived.Test.YtiilkiggfjpibaaBase
import Derived.WalkLawsBesides
import Derived.WalkSpells
import Derived.Outline
namespace Go.Proofs.Ytiilkiggfjpibaa.LK
set_option linter.unusedVariables false
set_option linter.unusedSimpArgs false
def nat (s : ByteArray) : List Nat := s.data.toList.map UInt8.toNat
theorem nat_length (s : ByteArray) : (nat s).length = s.size := by simp [nat]
theorem nat_get (s : ByteArray) (k : Nat) (h : k < s.size) : (nat s)[k]? = some s[k].toNat := by
  unfold nat
  rw [List.getElem?_map, List.getElem?_eq_getElem (by simpa using h)]
  rfl
theorem nat_inj {a b : ByteArray} (h : nat a = nat b) : a = b := by
  unfold nat at h
  have := List.map_inj_right (f := UInt8.toNat) (fun x y e => UInt8.toNat_inj.1 e) |>.1 h
  obtain ⟨⟨x⟩⟩ := a
  obtain ⟨⟨y⟩⟩ := b
  simp at this
  subst this
  rfl
abbrev Sym := ByteArray × Int
abbrev Wnt := Int × Int × ByteArray
/-- a letter, a digit or '_' -/
def isNC (c : Nat) : Bool := (97 ≤ c && c ≤ 122) || (65 ≤ c && c ≤ 90) || (48 ≤ c && c ≤ 57) || c == 95
def nameB (s : ByteArray) : Bool := (nat s).all isNC && decide (1 ≤ s.size) && decide (s.size ≤ 8)
def symOk (n : Nat) (x : Sym) : Bool := nameB x.1 && decide (0 ≤ x.2) && decide (x.2 ≤ n)
def wntOk (n : Nat) (x : Wnt) : Bool := nameB x.2.2 && decide (0 ≤ x.1) && decide (x.1 ≤ (n : Int) - 4) && decide (0 ≤ x.2.1) && decide (x.2.1 ≤ 1)
def near (x y : Wnt) : Bool := decide (-3 ≤ y.1 - x.1) && decide (y.1 - x.1 ≤ 3)
/-- the wants: each is right, and none is near one before it -/
def wantsOk (n : Nat) : List Wnt → List Wnt → Bool
  | _, [] => true
  | pre, x :: r => wntOk n x && !(pre.any fun y => near y x) && wantsOk n (pre ++ [x]) r
def soundB (n : Nat) (ss : List Sym) (ws : List Wnt) : Bool := ss.all (symOk n) && wantsOk n [] ws
/-- an element of the second list whose name one before it has -/
def dupB : List ByteArray → List ByteArray → Bool
  | _, [] => false
  | pre, x :: r => pre.any (fun y => y.toList == x.toList) || dupB (pre ++ [x]) r
def validF (n : Nat) (ss : List Sym) (ws : List Wnt) : Nat :=
  if 512 < n ∨ 16 < ss.length ∨ 16 < ws.length then 3 else if soundB n ss ws = false then 1 else if dupB [] (ss.map (·.1)) = true then 5 else 0
/-- an object: its bytes, symbols, wants -/
structure Ob where
  b : List Nat
  s : List Sym
  w : List Wnt
def Ob.valid (o : Ob) : Nat := validF o.b.length o.s o.w
def room (n : Nat) : Nat := (n + 23) / 16 * 16
def firstErr : List Ob → Nat
  | [] => 0
  | o :: r => if o.valid = 0 then firstErr r else o.valid
def names (os : List Ob) : List ByteArray := os.flatMap fun o => o.s.map (·.1)
def listedF (os : List Ob) : Nat := if 8 < os.length then 3 else if firstErr os ≠ 0 then firstErr os else if dupB [] (names os) = true then 5 else 0
/-- where objects end that begin at a place, the place first -/
def startsF (at_ : Nat) : List Ob → List Nat
  | [] => [at_]
  | o :: r => at_ :: startsF (at_ + room o.b.length) r
/-- the symbols, with the objects' numbers and the addresses -/
def tab (k at_ : Nat) : List Ob → List (ByteArray × Int × Int)
  | [] => []
  | o :: r => o.s.map (fun x => (x.1, (k : Int), (at_ : Int) + x.2)) ++ tab (k + 1) (at_ + room o.b.length) r
def lookS (t : List (ByteArray × Int × Int)) (s : ByteArray) : Option (Int × Int) := (t.find? fun x => x.1.toList == s.toList).map (·.2)
theorem dupB_append : ∀ (a b pre : List ByteArray), dupB pre (a ++ b) = (dupB pre a || dupB (pre ++ a) b)
  | [], b, pre => by simp [dupB]
  | x :: a, b, pre => by
    rw [List.cons_append, dupB, dupB, dupB_append a b (pre ++ [x])]
    simp [Bool.or_assoc]
end Go.Proofs.Ytiilkiggfjpibaa.LK

namespace Go.Proofs.Ytiilkiggfjpibaa
open Go.RowKit LK
set_option linter.unusedVariables false
set_option linter.unusedSimpArgs false
theorem bytes_of_string {P : Program} (w : World) (src dst e : TypeId) (s : ByteArray) (hs : P.underlying src = some .string) (hd : P.underlying dst = some (.slice e)) (he : P.underlying e = some (.int .u8)) :
    ∃ c W, (convert src dst (.string s)).run P w = .ok (.slice (some ⟨w.heap.size, 0, none⟩) s.size c) W ∧ Q w W ∧ w.heap.size < W.heap.size ∧ s.size ≤ c ∧ ∀ k, (h : k < s.size) → W.cell? ⟨w.heap.size, k, none⟩ = some (.int .u8 (s[k].toNat : Int)) := by
  refine ⟨_, _, run_bytes_of_string w src dst e s hs hd he, (Q.refl w).drew.alloc _, by simp, grownCap_ge _ _ _ _, fun k h => ?_⟩
  have := World.cell?_alloc_mark w.drew (bytesRow s (grownCap w s.size 0 e)) e ((bytesRow s (grownCap w s.size 0 e)).size, (bytesRow s (grownCap w s.size 0 e)).size + 1) k
  exact this.trans (bytesRow_at s _ k h)
theorem nc_cases (v : Nat) (hv : v < 256) : (0 ≤ v ∧ v ≤ 47) ∨ (48 ≤ v ∧ v ≤ 57) ∨ (58 ≤ v ∧ v ≤ 64) ∨ (65 ≤ v ∧ v ≤ 90) ∨ (91 ≤ v ∧ v ≤ 94) ∨ (95 ≤ v ∧ v ≤ 95) ∨ (96 ≤ v ∧ v ≤ 96) ∨ (97 ≤ v ∧ v ≤ 122) ∨ (123 ≤ v ∧ v ≤ 255) := by omega
theorem name_false {s : ByteArray} {k : Nat} (hk : k < s.size) (h : isNC ((nat s).getD k 0) = false) : nameB s = false := by
  unfold nameB
  have : (nat s).all isNC = false := by
    rw [List.all_eq_false]
    refine ⟨(nat s).getD k 0, ?_, by rw [h]; exact Bool.false_ne_true⟩
    rw [List.getD_eq_getElem?_getD, nat_get s k hk]
    exact List.mem_of_getElem? (nat_get s k hk)
  rw [this]
  rfl
theorem name_size {s : ByteArray} (h : ∀ j, j < s.size → isNC ((nat s).getD j 0) = true) : nameB s = (decide (1 ≤ s.size) && decide (s.size ≤ 8)) := by
  unfold nameB
  have : (nat s).all isNC = true := by
    rw [List.all_eq_true]
    intro x hx
    obtain ⟨j, hj, rfl⟩ := List.getElem_of_mem hx
    have := h j (by rw [← nat_length]; exact hj)
    rw [List.getD_eq_getElem?_getD, List.getElem?_eq_getElem hj] at this
    exact this
  rw [this]
  rfl
set_option maxHeartbeats 2000000 in
theorem isName_any (s : ByteArray) (w : World) (hs : s.size ≤ 140737488351232) : Calls Try.prog 94 #[.string s] w fun e w' => e = .returned (.bool (nameB s)) ∧ Q w w' := by
  obtain ⟨cc, W1, hrun, hq1, hlt1, hcc, hcell⟩ := bytes_of_string (P := Try.prog) w 9 30 5 s Try.underlying9 Try.underlying30 Try.underlying5
  have HC := hide hcell
  have hsi : (s.size : Int) ≤ 140737488351232 := by omega
  clear hcell
  go_enter Try.func94, Try.ntmps94
  go_wp2_with fail
  clear hrun
  go_loopw [8] (fun vi wr => ∃ k : Nat, k ≤ s.size ∧ vi = .int .i64 k ∧ (∀ j, j < k → isNC ((nat s).getD j 0) = true) ∧ Q W1 wr) (fun vi _ => s.size - (intOf vi).toNat)
  case atStart => exact ⟨0, by omega, by go_num, fun j hj => by omega, Q.refl _⟩
  case round =>
    obtain ⟨k, hk, rfl, hall, hq⟩ := hrel
    have HALL := hide hall
    have hsz := hq.size
    clear hall
    by_cases hlt : k < s.size
    · have hd0 : decide (k < s.size) = true := by simpa using hlt
      have hd1 : decide ((k : Int) < (s.size : Int)) = true := by simpa using hlt
      have hlti : (k : Int) < (s.size : Int) := by omega
      have kc := (hq.facts.1 _ k hlt1).trans (HC.out k hlt)
      have hgk : (nat s).getD k 0 = s[k].toNat := by rw [List.getD_eq_getElem?_getD, nat_get s k hlt]; rfl
      have hv := s[k].toNat_lt
      generalize s[k].toNat = v at *
      have hw1 : w.heap.size < wr.heap.size := by omega
      have GK := hide hgk
      clear hgk
      rcases nc_cases v hv with ⟨hlo, hhi⟩ | ⟨hlo, hhi⟩ | ⟨hlo, hhi⟩ | ⟨hlo, hhi⟩ | ⟨hlo, hhi⟩ | ⟨hlo, hhi⟩ | ⟨hlo, hhi⟩ | ⟨hlo, hhi⟩ | ⟨hlo, hhi⟩
      · have f1 : decide ((97 : Int) ≤ (v : Int)) = false := by simp <;> omega
        have f1n : decide ((97 : Nat) ≤ v) = false := by simp <;> omega
        have f2 : decide ((v : Int) ≤ (122 : Int)) = true := by simp <;> omega
        have f2n : decide (v ≤ (122 : Nat)) = true := by simp <;> omega
        have f3 : decide ((65 : Int) ≤ (v : Int)) = false := by simp <;> omega
        have f3n : decide ((65 : Nat) ≤ v) = false := by simp <;> omega
        have f4 : decide ((v : Int) ≤ (90 : Int)) = true := by simp <;> omega
        have f4n : decide (v ≤ (90 : Nat)) = true := by simp <;> omega
        have f5 : decide ((48 : Int) ≤ (v : Int)) = false := by simp <;> omega
        have f5n : decide ((48 : Nat) ≤ v) = false := by simp <;> omega
        have f6 : decide ((v : Int) ≤ (57 : Int)) = true := by simp <;> omega
        have f6n : decide (v ≤ (57 : Nat)) = true := by simp <;> omega
        have f7 : ((v : Int) == 95) = false := by simp <;> omega
        have hnc : isNC v = false := by simp only [isNC, decide_true, decide_false, Bool.or_eq_true, f1n, f2n, f3n, f4n, f5n, f6n]; simp <;> omega
        have hf : nameB s = false := name_false hlt (by rw [GK.out, hnc])
        have HF := hide hf
        clear hnc hf hlo hhi
        go_wp2_with fail
        go_ret
        exact ⟨ret_bool HF.out.symm, hq1.trans hq⟩
      · have f1 : decide ((97 : Int) ≤ (v : Int)) = false := by simp <;> omega
        have f1n : decide ((97 : Nat) ≤ v) = false := by simp <;> omega
        have f2 : decide ((v : Int) ≤ (122 : Int)) = true := by simp <;> omega
        have f2n : decide (v ≤ (122 : Nat)) = true := by simp <;> omega
        have f3 : decide ((65 : Int) ≤ (v : Int)) = false := by simp <;> omega
        have f3n : decide ((65 : Nat) ≤ v) = false := by simp <;> omega
        have f4 : decide ((v : Int) ≤ (90 : Int)) = true := by simp <;> omega
        have f4n : decide (v ≤ (90 : Nat)) = true := by simp <;> omega
        have f5 : decide ((48 : Int) ≤ (v : Int)) = true := by simp <;> omega
        have f5n : decide ((48 : Nat) ≤ v) = true := by simp <;> omega
        have f6 : decide ((v : Int) ≤ (57 : Int)) = true := by simp <;> omega
        have f6n : decide (v ≤ (57 : Nat)) = true := by simp <;> omega
        have f7 : ((v : Int) == 95) = false := by simp <;> omega
        have hnc : isNC v = true := by simp only [isNC, decide_true, decide_false, Bool.or_eq_true, f1n, f2n, f3n, f4n, f5n, f6n]; simp <;> omega
        have HNC := hide hnc
        clear hnc hlo hhi
        go_wp2_with fail
        go_roundw
        case rel => exact ⟨k + 1, by omega, by go_num, fun j hj => by
          by_cases e : j = k
          · subst e; rw [GK.out]; exact HNC.out
          · exact HALL.out j (by omega), hq⟩
        case measure => simp [intOf] <;> omega
      · have f1 : decide ((97 : Int) ≤ (v : Int)) = false := by simp <;> omega
        have f1n : decide ((97 : Nat) ≤ v) = false := by simp <;> omega
        have f2 : decide ((v : Int) ≤ (122 : Int)) = true := by simp <;> omega
        have f2n : decide (v ≤ (122 : Nat)) = true := by simp <;> omega
        have f3 : decide ((65 : Int) ≤ (v : Int)) = false := by simp <;> omega
        have f3n : decide ((65 : Nat) ≤ v) = false := by simp <;> omega
        have f4 : decide ((v : Int) ≤ (90 : Int)) = true := by simp <;> omega
        have f4n : decide (v ≤ (90 : Nat)) = true := by simp <;> omega
        have f5 : decide ((48 : Int) ≤ (v : Int)) = true := by simp <;> omega
        have f5n : decide ((48 : Nat) ≤ v) = true := by simp <;> omega
        have f6 : decide ((v : Int) ≤ (57 : Int)) = false := by simp <;> omega
        have f6n : decide (v ≤ (57 : Nat)) = false := by simp <;> omega
        have f7 : ((v : Int) == 95) = false := by simp <;> omega
        have hnc : isNC v = false := by simp only [isNC, decide_true, decide_false, Bool.or_eq_true, f1n, f2n, f3n, f4n, f5n, f6n]; simp <;> omega
        have hf : nameB s = false := name_false hlt (by rw [GK.out, hnc])
        have HF := hide hf
        clear hnc hf hlo hhi
        go_wp2_with fail
        go_ret
        exact ⟨ret_bool HF.out.symm, hq1.trans hq⟩
      · have f1 : decide ((97 : Int) ≤ (v : Int)) = false := by simp <;> omega
        have f1n : decide ((97 : Nat) ≤ v) = false := by simp <;> omega
        have f2 : decide ((v : Int) ≤ (122 : Int)) = true := by simp <;> omega
        have f2n : decide (v ≤ (122 : Nat)) = true := by simp <;> omega
        have f3 : decide ((65 : Int) ≤ (v : Int)) = true := by simp <;> omega
        have f3n : decide ((65 : Nat) ≤ v) = true := by simp <;> omega
        have f4 : decide ((v : Int) ≤ (90 : Int)) = true := by simp <;> omega
        have f4n : decide (v ≤ (90 : Nat)) = true := by simp <;> omega
        have f5 : decide ((48 : Int) ≤ (v : Int)) = true := by simp <;> omega
        have f5n : decide ((48 : Nat) ≤ v) = true := by simp <;> omega
        have f6 : decide ((v : Int) ≤ (57 : Int)) = false := by simp <;> omega
        have f6n : decide (v ≤ (57 : Nat)) = false := by simp <;> omega
        have f7 : ((v : Int) == 95) = false := by simp <;> omega
        have hnc : isNC v = true := by simp only [isNC, decide_true, decide_false, Bool.or_eq_true, f1n, f2n, f3n, f4n, f5n, f6n]; simp <;> omega
        have HNC := hide hnc
        clear hnc hlo hhi
        go_wp2_with fail
        go_roundw
        case rel => exact ⟨k + 1, by omega, by go_num, fun j hj => by
          by_cases e : j = k
          · subst e; rw [GK.out]; exact HNC.out
          · exact HALL.out j (by omega), hq⟩
        case measure => simp [intOf] <;> omega
      · have f1 : decide ((97 : Int) ≤ (v : Int)) = false := by simp <;> omega
        have f1n : decide ((97 : Nat) ≤ v) = false := by simp <;> omega
        have f2 : decide ((v : Int) ≤ (122 : Int)) = true := by simp <;> omega
        have f2n : decide (v ≤ (122 : Nat)) = true := by simp <;> omega
        have f3 : decide ((65 : Int) ≤ (v : Int)) = true := by simp <;> omega
        have f3n : decide ((65 : Nat) ≤ v) = true := by simp <;> omega
        have f4 : decide ((v : Int) ≤ (90 : Int)) = false := by simp <;> omega
        have f4n : decide (v ≤ (90 : Nat)) = false := by simp <;> omega
        have f5 : decide ((48 : Int) ≤ (v : Int)) = true := by simp <;> omega
        have f5n : decide ((48 : Nat) ≤ v) = true := by simp <;> omega
        have f6 : decide ((v : Int) ≤ (57 : Int)) = false := by simp <;> omega
        have f6n : decide (v ≤ (57 : Nat)) = false := by simp <;> omega
        have f7 : ((v : Int) == 95) = false := by simp <;> omega
        have hnc : isNC v = false := by simp only [isNC, decide_true, decide_false, Bool.or_eq_true, f1n, f2n, f3n, f4n, f5n, f6n]; simp <;> omega
        have hf : nameB s = false := name_false hlt (by rw [GK.out, hnc])
        have HF := hide hf
        clear hnc hf hlo hhi
        go_wp2_with fail
        go_ret
        exact ⟨ret_bool HF.out.symm, hq1.trans hq⟩
      · have f1 : decide ((97 : Int) ≤ (v : Int)) = false := by simp <;> omega
        have f1n : decide ((97 : Nat) ≤ v) = false := by simp <;> omega
        have f2 : decide ((v : Int) ≤ (122 : Int)) = true := by simp <;> omega
        have f2n : decide (v ≤ (122 : Nat)) = true := by simp <;> omega
        have f3 : decide ((65 : Int) ≤ (v : Int)) = true := by simp <;> omega
        have f3n : decide ((65 : Nat) ≤ v) = true := by simp <;> omega
        have f4 : decide ((v : Int) ≤ (90 : Int)) = false := by simp <;> omega
        have f4n : decide (v ≤ (90 : Nat)) = false := by simp <;> omega
        have f5 : decide ((48 : Int) ≤ (v : Int)) = true := by simp <;> omega
        have f5n : decide ((48 : Nat) ≤ v) = true := by simp <;> omega
        have f6 : decide ((v : Int) ≤ (57 : Int)) = false := by simp <;> omega
        have f6n : decide (v ≤ (57 : Nat)) = false := by simp <;> omega
        have f7 : ((v : Int) == 95) = true := by simp <;> omega
        have hnc : isNC v = true := by simp only [isNC, decide_true, decide_false, Bool.or_eq_true, f1n, f2n, f3n, f4n, f5n, f6n]; simp <;> omega
        have HNC := hide hnc
        clear hnc hlo hhi
        go_wp2_with fail
        go_roundw
        case rel => exact ⟨k + 1, by omega, by go_num, fun j hj => by
          by_cases e : j = k
          · subst e; rw [GK.out]; exact HNC.out
          · exact HALL.out j (by omega), hq⟩
        case measure => simp [intOf] <;> omega
      · have f1 : decide ((97 : Int) ≤ (v : Int)) = false := by simp <;> omega
        have f1n : decide ((97 : Nat) ≤ v) = false := by simp <;> omega
        have f2 : decide ((v : Int) ≤ (122 : Int)) = true := by simp <;> omega
        have f2n : decide (v ≤ (122 : Nat)) = true := by simp <;> omega
        have f3 : decide ((65 : Int) ≤ (v : Int)) = true := by simp <;> omega
        have f3n : decide ((65 : Nat) ≤ v) = true := by simp <;> omega
        have f4 : decide ((v : Int) ≤ (90 : Int)) = false := by simp <;> omega
        have f4n : decide (v ≤ (90 : Nat)) = false := by simp <;> omega
        have f5 : decide ((48 : Int) ≤ (v : Int)) = true := by simp <;> omega
        have f5n : decide ((48 : Nat) ≤ v) = true := by simp <;> omega
        have f6 : decide ((v : Int) ≤ (57 : Int)) = false := by simp <;> omega
        have f6n : decide (v ≤ (57 : Nat)) = false := by simp <;> omega
        have f7 : ((v : Int) == 95) = false := by simp <;> omega
        have hnc : isNC v = false := by simp only [isNC, decide_true, decide_false, Bool.or_eq_true, f1n, f2n, f3n, f4n, f5n, f6n]; simp <;> omega
        have hf : nameB s = false := name_false hlt (by rw [GK.out, hnc])
        have HF := hide hf
        clear hnc hf hlo hhi
        go_wp2_with fail
        go_ret
        exact ⟨ret_bool HF.out.symm, hq1.trans hq⟩
      · have f1 : decide ((97 : Int) ≤ (v : Int)) = true := by simp <;> omega
        have f1n : decide ((97 : Nat) ≤ v) = true := by simp <;> omega
        have f2 : decide ((v : Int) ≤ (122 : Int)) = true := by simp <;> omega
        have f2n : decide (v ≤ (122 : Nat)) = true := by simp <;> omega
        have f3 : decide ((65 : Int) ≤ (v : Int)) = true := by simp <;> omega
        have f3n : decide ((65 : Nat) ≤ v) = true := by simp <;> omega
        have f4 : decide ((v : Int) ≤ (90 : Int)) = false := by simp <;> omega
        have f4n : decide (v ≤ (90 : Nat)) = false := by simp <;> omega
        have f5 : decide ((48 : Int) ≤ (v : Int)) = true := by simp <;> omega
        have f5n : decide ((48 : Nat) ≤ v) = true := by simp <;> omega
        have f6 : decide ((v : Int) ≤ (57 : Int)) = false := by simp <;> omega
        have f6n : decide (v ≤ (57 : Nat)) = false := by simp <;> omega
        have f7 : ((v : Int) == 95) = false := by simp <;> omega
        have hnc : isNC v = true := by simp only [isNC, decide_true, decide_false, Bool.or_eq_true, f1n, f2n, f3n, f4n, f5n, f6n]; simp <;> omega
        have HNC := hide hnc
        clear hnc hlo hhi
        go_wp2_with fail
        go_roundw
        case rel => exact ⟨k + 1, by omega, by go_num, fun j hj => by
          by_cases e : j = k
          · subst e; rw [GK.out]; exact HNC.out
          · exact HALL.out j (by omega), hq⟩
        case measure => simp [intOf] <;> omega
      · have f1 : decide ((97 : Int) ≤ (v : Int)) = true := by simp <;> omega
        have f1n : decide ((97 : Nat) ≤ v) = true := by simp <;> omega
        have f2 : decide ((v : Int) ≤ (122 : Int)) = false := by simp <;> omega
        have f2n : decide (v ≤ (122 : Nat)) = false := by simp <;> omega
        have f3 : decide ((65 : Int) ≤ (v : Int)) = true := by simp <;> omega
        have f3n : decide ((65 : Nat) ≤ v) = true := by simp <;> omega
        have f4 : decide ((v : Int) ≤ (90 : Int)) = false := by simp <;> omega
        have f4n : decide (v ≤ (90 : Nat)) = false := by simp <;> omega
        have f5 : decide ((48 : Int) ≤ (v : Int)) = true := by simp <;> omega
        have f5n : decide ((48 : Nat) ≤ v) = true := by simp <;> omega
        have f6 : decide ((v : Int) ≤ (57 : Int)) = false := by simp <;> omega
        have f6n : decide (v ≤ (57 : Nat)) = false := by simp <;> omega
        have f7 : ((v : Int) == 95) = false := by simp <;> omega
        have hnc : isNC v = false := by simp only [isNC, decide_true, decide_false, Bool.or_eq_true, f1n, f2n, f3n, f4n, f5n, f6n]; simp <;> omega
        have hf : nameB s = false := name_false hlt (by rw [GK.out, hnc])
        have HF := hide hf
        clear hnc hf hlo hhi
        go_wp2_with fail
        go_ret
        exact ⟨ret_bool HF.out.symm, hq1.trans hq⟩
    · have hd0 : decide (k < s.size) = false := by simpa using hlt
      have hd1 : decide ((k : Int) < (s.size : Int)) = false := by simpa using hlt
      have hn := name_size (s := s) (fun j hj => HALL.out j (by omega))
      have HN := hide hn
      clear hn
      have hqf := hq1.trans hq
      by_cases h1 : 1 ≤ s.size
      · have a1 : decide ((1 : Int) ≤ (s.size : Int)) = true := by simp; omega
        have a2 : decide (1 ≤ s.size) = true := by simpa using h1
        by_cases h8 : s.size ≤ 8
        · have b1 : decide ((s.size : Int) ≤ (8 : Int)) = true := by simp; omega
          have b2 : decide (s.size ≤ 8) = true := by simpa using h8
          have HB := hide (HN.out.trans (by rw [a2, b2]; rfl : _ = true))
          go_wp2_with fail
          go_ret
          exact ⟨ret_bool HB.out.symm, hqf⟩
        · have b1 : decide ((s.size : Int) ≤ (8 : Int)) = false := by simp; omega
          have b2 : decide (s.size ≤ 8) = false := by simpa using h8
          have HB := hide (HN.out.trans (by rw [a2, b2]; rfl : _ = false))
          go_wp2_with fail
          go_ret
          exact ⟨ret_bool HB.out.symm, hqf⟩
      · have a1 : decide ((1 : Int) ≤ (s.size : Int)) = false := by simp; omega
        have a2 : decide (1 ≤ s.size) = false := by simpa using h1
        have HB := hide (HN.out.trans (by rw [a2]; rfl : _ = false))
        go_wp2_with fail
        go_ret
        exact ⟨ret_bool HB.out.symm, hqf⟩
/-- is n from lo to hi -/
def inB (n lo hi : Int) : Bool := decide (lo ≤ n) && decide (n ≤ hi)
theorem within_any (n lo hi : Int) (w : World) : Calls Try.prog 73 #[.int .i64 n, .int .i64 lo, .int .i64 hi] w fun e w' => e = .returned (.bool (inB n lo hi)) ∧ w = w' := by
  unfold inB
  cases h1 : decide (lo ≤ n)
  · go_enter Try.func73, Try.ntmps73
    go_wp2_with fail
    go_ret
    exact ⟨rfl, rfl⟩
  · cases h2 : decide (n ≤ hi)
    · go_enter Try.func73, Try.ntmps73
      go_wp2_with fail
      go_ret
      exact ⟨rfl, rfl⟩
    · go_enter Try.func73, Try.ntmps73
      go_wp2_with fail
      go_ret
      exact ⟨rfl, rfl⟩
set_option maxHeartbeats 2000000 in
theorem rIsName_any (s : ByteArray) (w : World) (hs : s.size ≤ 140737488351232) : Calls Try.prog 72 #[.string s] w fun e w' => e = .returned (.bool (nameB s)) ∧ w = w' := by
  have hsi : (s.size : Int) ≤ 140737488351232 := by omega
  have ws : s.size ≤ maxLen := by unfold maxLen; omega
  go_enter Try.func72, Try.ntmps72
  go_wp2_with fail
  go_loop [3] (fun vi => ∃ k : Nat, k ≤ s.size ∧ vi = .int .i64 k ∧ (∀ j, j < k → isNC ((nat s).getD j 0) = true)) (fun vi => s.size - (intOf vi).toNat)
  case atStart => exact ⟨0, by omega, by go_num, fun j hj => by omega⟩
  case round =>
    obtain ⟨k, hk, rfl, hall⟩ := hrel
    have HALL := hide hall
    clear hall
    by_cases hlt : k < s.size
    · have hd0 : decide (k < s.size) = true := by simpa using hlt
      have hd1 : decide ((k : Int) < (s.size : Int)) = true := by simpa using hlt
      have hlti : (k : Int) < (s.size : Int) := by omega
      have hgk : (nat s).getD k 0 = s[k].toNat := by rw [List.getD_eq_getElem?_getD, nat_get s k hlt]; rfl
      have hv := s[k].toNat_lt
      obtain ⟨v, hvv⟩ : ∃ v, s[k].toNat = v := ⟨_, rfl⟩
      rw [hvv] at hgk hv
      have GK := hide hgk
      clear hgk
      rcases nc_cases v hv with ⟨hlo, hhi⟩ | ⟨hlo, hhi⟩ | ⟨hlo, hhi⟩ | ⟨hlo, hhi⟩ | ⟨hlo, hhi⟩ | ⟨hlo, hhi⟩ | ⟨hlo, hhi⟩ | ⟨hlo, hhi⟩ | ⟨hlo, hhi⟩
      · have f1 : decide ((97 : Int) ≤ (v : Int)) = false := by simp <;> omega
        have f1n : decide ((97 : Nat) ≤ v) = false := by simp <;> omega
        have f2 : decide ((v : Int) ≤ (122 : Int)) = true := by simp <;> omega
        have f2n : decide (v ≤ (122 : Nat)) = true := by simp <;> omega
        have f3 : decide ((65 : Int) ≤ (v : Int)) = false := by simp <;> omega
        have f3n : decide ((65 : Nat) ≤ v) = false := by simp <;> omega
        have f4 : decide ((v : Int) ≤ (90 : Int)) = true := by simp <;> omega
        have f4n : decide (v ≤ (90 : Nat)) = true := by simp <;> omega
        have f5 : decide ((48 : Int) ≤ (v : Int)) = false := by simp <;> omega
        have f5n : decide ((48 : Nat) ≤ v) = false := by simp <;> omega
        have f6 : decide ((v : Int) ≤ (57 : Int)) = true := by simp <;> omega
        have f6n : decide (v ≤ (57 : Nat)) = true := by simp <;> omega
        have f7 : ((v : Int) == 95) = false := by simp <;> omega
        have hnc : isNC v = false := by simp only [isNC, decide_true, decide_false, Bool.or_eq_true, f1n, f2n, f3n, f4n, f5n, f6n]; simp <;> omega
        have hf : nameB s = false := name_false hlt (by rw [GK.out, hnc])
        have HF := hide hf
        clear hnc hf hlo hhi
        go_wp2_with fail
        go_ret
        exact ⟨ret_bool HF.out.symm, rfl⟩
      · have f1 : decide ((97 : Int) ≤ (v : Int)) = false := by simp <;> omega
        have f1n : decide ((97 : Nat) ≤ v) = false := by simp <;> omega
        have f2 : decide ((v : Int) ≤ (122 : Int)) = true := by simp <;> omega
        have f2n : decide (v ≤ (122 : Nat)) = true := by simp <;> omega
        have f3 : decide ((65 : Int) ≤ (v : Int)) = false := by simp <;> omega
        have f3n : decide ((65 : Nat) ≤ v) = false := by simp <;> omega
        have f4 : decide ((v : Int) ≤ (90 : Int)) = true := by simp <;> omega
        have f4n : decide (v ≤ (90 : Nat)) = true := by simp <;> omega
        have f5 : decide ((48 : Int) ≤ (v : Int)) = true := by simp <;> omega
        have f5n : decide ((48 : Nat) ≤ v) = true := by simp <;> omega
        have f6 : decide ((v : Int) ≤ (57 : Int)) = true := by simp <;> omega
        have f6n : decide (v ≤ (57 : Nat)) = true := by simp <;> omega
        have f7 : ((v : Int) == 95) = false := by simp <;> omega
        have hnc : isNC v = true := by simp only [isNC, decide_true, decide_false, Bool.or_eq_true, f1n, f2n, f3n, f4n, f5n, f6n]; simp <;> omega
        have HNC := hide hnc
        clear hnc hlo hhi
        go_wp2_with fail
        go_round
        case rel => exact ⟨k + 1, by omega, by go_num, fun j hj => by
          by_cases e : j = k
          · subst e; rw [GK.out]; exact HNC.out
          · exact HALL.out j (by omega)⟩
        case measure => simp [intOf] <;> omega
      · have f1 : decide ((97 : Int) ≤ (v : Int)) = false := by simp <;> omega
        have f1n : decide ((97 : Nat) ≤ v) = false := by simp <;> omega
        have f2 : decide ((v : Int) ≤ (122 : Int)) = true := by simp <;> omega
        have f2n : decide (v ≤ (122 : Nat)) = true := by simp <;> omega
        have f3 : decide ((65 : Int) ≤ (v : Int)) = false := by simp <;> omega
        have f3n : decide ((65 : Nat) ≤ v) = false := by simp <;> omega
        have f4 : decide ((v : Int) ≤ (90 : Int)) = true := by simp <;> omega
        have f4n : decide (v ≤ (90 : Nat)) = true := by simp <;> omega
        have f5 : decide ((48 : Int) ≤ (v : Int)) = true := by simp <;> omega
        have f5n : decide ((48 : Nat) ≤ v) = true := by simp <;> omega
        have f6 : decide ((v : Int) ≤ (57 : Int)) = false := by simp <;> omega
        have f6n : decide (v ≤ (57 : Nat)) = false := by simp <;> omega
        have f7 : ((v : Int) == 95) = false := by simp <;> omega
        have hnc : isNC v = false := by simp only [isNC, decide_true, decide_false, Bool.or_eq_true, f1n, f2n, f3n, f4n, f5n, f6n]; simp <;> omega
        have hf : nameB s = false := name_false hlt (by rw [GK.out, hnc])
        have HF := hide hf
        clear hnc hf hlo hhi
        go_wp2_with fail
        go_ret
        exact ⟨ret_bool HF.out.symm, rfl⟩
      · have f1 : decide ((97 : Int) ≤ (v : Int)) = false := by simp <;> omega
        have f1n : decide ((97 : Nat) ≤ v) = false := by simp <;> omega
        have f2 : decide ((v : Int) ≤ (122 : Int)) = true := by simp <;> omega
        have f2n : decide (v ≤ (122 : Nat)) = true := by simp <;> omega
        have f3 : decide ((65 : Int) ≤ (v : Int)) = true := by simp <;> omega
        have f3n : decide ((65 : Nat) ≤ v) = true := by simp <;> omega
        have f4 : decide ((v : Int) ≤ (90 : Int)) = true := by simp <;> omega
        have f4n : decide (v ≤ (90 : Nat)) = true := by simp <;> omega
        have f5 : decide ((48 : Int) ≤ (v : Int)) = true := by simp <;> omega
        have f5n : decide ((48 : Nat) ≤ v) = true := by simp <;> omega
        have f6 : decide ((v : Int) ≤ (57 : Int)) = false := by simp <;> omega
        have f6n : decide (v ≤ (57 : Nat)) = false := by simp <;> omega
        have f7 : ((v : Int) == 95) = false := by simp <;> omega
        have hnc : isNC v = true := by simp only [isNC, decide_true, decide_false, Bool.or_eq_true, f1n, f2n, f3n, f4n, f5n, f6n]; simp <;> omega
        have HNC := hide hnc
        clear hnc hlo hhi
        go_wp2_with fail
        go_round
        case rel => exact ⟨k + 1, by omega, by go_num, fun j hj => by
          by_cases e : j = k
          · subst e; rw [GK.out]; exact HNC.out
          · exact HALL.out j (by omega)⟩
        case measure => simp [intOf] <;> omega
      · have f1 : decide ((97 : Int) ≤ (v : Int)) = false := by simp <;> omega
        have f1n : decide ((97 : Nat) ≤ v) = false := by simp <;> omega
        have f2 : decide ((v : Int) ≤ (122 : Int)) = true := by simp <;> omega
        have f2n : decide (v ≤ (122 : Nat)) = true := by simp <;> omega
        have f3 : decide ((65 : Int) ≤ (v : Int)) = true := by simp <;> omega
        have f3n : decide ((65 : Nat) ≤ v) = true := by simp <;> omega
        have f4 : decide ((v : Int) ≤ (90 : Int)) = false := by simp <;> omega
        have f4n : decide (v ≤ (90 : Nat)) = false := by simp <;> omega
        have f5 : decide ((48 : Int) ≤ (v : Int)) = true := by simp <;> omega
        have f5n : decide ((48 : Nat) ≤ v) = true := by simp <;> omega
        have f6 : decide ((v : Int) ≤ (57 : Int)) = false := by simp <;> omega
        have f6n : decide (v ≤ (57 : Nat)) = false := by simp <;> omega
        have f7 : ((v : Int) == 95) = false := by simp <;> omega
        have hnc : isNC v = false := by simp only [isNC, decide_true, decide_false, Bool.or_eq_true, f1n, f2n, f3n, f4n, f5n, f6n]; simp <;> omega
        have hf : nameB s = false := name_false hlt (by rw [GK.out, hnc])
        have HF := hide hf
        clear hnc hf hlo hhi
        go_wp2_with fail
        go_ret
        exact ⟨ret_bool HF.out.symm, rfl⟩
      · have f1 : decide ((97 : Int) ≤ (v : Int)) = false := by simp <;> omega
        have f1n : decide ((97 : Nat) ≤ v) = false := by simp <;> omega
        have f2 : decide ((v : Int) ≤ (122 : Int)) = true := by simp <;> omega
        have f2n : decide (v ≤ (122 : Nat)) = true := by simp <;> omega
        have f3 : decide ((65 : Int) ≤ (v : Int)) = true := by simp <;> omega
        have f3n : decide ((65 : Nat) ≤ v) = true := by simp <;> omega
        have f4 : decide ((v : Int) ≤ (90 : Int)) = false := by simp <;> omega
        have f4n : decide (v ≤ (90 : Nat)) = false := by simp <;> omega
        have f5 : decide ((48 : Int) ≤ (v : Int)) = true := by simp <;> omega
        have f5n : decide ((48 : Nat) ≤ v) = true := by simp <;> omega
        have f6 : decide ((v : Int) ≤ (57 : Int)) = false := by simp <;> omega
        have f6n : decide (v ≤ (57 : Nat)) = false := by simp <;> omega
        have f7 : ((v : Int) == 95) = true := by simp <;> omega
        have hnc : isNC v = true := by simp only [isNC, decide_true, decide_false, Bool.or_eq_true, f1n, f2n, f3n, f4n, f5n, f6n]; simp <;> omega
        have HNC := hide hnc
        clear hnc hlo hhi
        go_wp2_with fail
        go_round
        case rel => exact ⟨k + 1, by omega, by go_num, fun j hj => by
          by_cases e : j = k
          · subst e; rw [GK.out]; exact HNC.out
          · exact HALL.out j (by omega)⟩
        case measure => simp [intOf] <;> omega
      · have f1 : decide ((97 : Int) ≤ (v : Int)) = false := by simp <;> omega
        have f1n : decide ((97 : Nat) ≤ v) = false := by simp <;> omega
        have f2 : decide ((v : Int) ≤ (122 : Int)) = true := by simp <;> omega
        have f2n : decide (v ≤ (122 : Nat)) = true := by simp <;> omega
        have f3 : decide ((65 : Int) ≤ (v : Int)) = true := by simp <;> omega
        have f3n : decide ((65 : Nat) ≤ v) = true := by simp <;> omega
        have f4 : decide ((v : Int) ≤ (90 : Int)) = false := by simp <;> omega
        have f4n : decide (v ≤ (90 : Nat)) = false := by simp <;> omega
        have f5 : decide ((48 : Int) ≤ (v : Int)) = true := by simp <;> omega
        have f5n : decide ((48 : Nat) ≤ v) = true := by simp <;> omega
        have f6 : decide ((v : Int) ≤ (57 : Int)) = false := by simp <;> omega
        have f6n : decide (v ≤ (57 : Nat)) = false := by simp <;> omega
        have f7 : ((v : Int) == 95) = false := by simp <;> omega
        have hnc : isNC v = false := by simp only [isNC, decide_true, decide_false, Bool.or_eq_true, f1n, f2n, f3n, f4n, f5n, f6n]; simp <;> omega
        have hf : nameB s = false := name_false hlt (by rw [GK.out, hnc])
        have HF := hide hf
        clear hnc hf hlo hhi
        go_wp2_with fail
        go_ret
        exact ⟨ret_bool HF.out.symm, rfl⟩
      · have f1 : decide ((97 : Int) ≤ (v : Int)) = true := by simp <;> omega
        have f1n : decide ((97 : Nat) ≤ v) = true := by simp <;> omega
        have f2 : decide ((v : Int) ≤ (122 : Int)) = true := by simp <;> omega
        have f2n : decide (v ≤ (122 : Nat)) = true := by simp <;> omega
        have f3 : decide ((65 : Int) ≤ (v : Int)) = true := by simp <;> omega
        have f3n : decide ((65 : Nat) ≤ v) = true := by simp <;> omega
        have f4 : decide ((v : Int) ≤ (90 : Int)) = false := by simp <;> omega
        have f4n : decide (v ≤ (90 : Nat)) = false := by simp <;> omega
        have f5 : decide ((48 : Int) ≤ (v : Int)) = true := by simp <;> omega
        have f5n : decide ((48 : Nat) ≤ v) = true := by simp <;> omega
        have f6 : decide ((v : Int) ≤ (57 : Int)) = false := by simp <;> omega
        have f6n : decide (v ≤ (57 : Nat)) = false := by simp <;> omega
        have f7 : ((v : Int) == 95) = false := by simp <;> omega
        have hnc : isNC v = true := by simp only [isNC, decide_true, decide_false, Bool.or_eq_true, f1n, f2n, f3n, f4n, f5n, f6n]; simp <;> omega
        have HNC := hide hnc
        clear hnc hlo hhi
        go_wp2_with fail
        go_round
        case rel => exact ⟨k + 1, by omega, by go_num, fun j hj => by
          by_cases e : j = k
          · subst e; rw [GK.out]; exact HNC.out
          · exact HALL.out j (by omega)⟩
        case measure => simp [intOf] <;> omega
      · have f1 : decide ((97 : Int) ≤ (v : Int)) = true := by simp <;> omega
        have f1n : decide ((97 : Nat) ≤ v) = true := by simp <;> omega
        have f2 : decide ((v : Int) ≤ (122 : Int)) = false := by simp <;> omega
        have f2n : decide (v ≤ (122 : Nat)) = false := by simp <;> omega
        have f3 : decide ((65 : Int) ≤ (v : Int)) = true := by simp <;> omega
        have f3n : decide ((65 : Nat) ≤ v) = true := by simp <;> omega
        have f4 : decide ((v : Int) ≤ (90 : Int)) = false := by simp <;> omega
        have f4n : decide (v ≤ (90 : Nat)) = false := by simp <;> omega
        have f5 : decide ((48 : Int) ≤ (v : Int)) = true := by simp <;> omega
        have f5n : decide ((48 : Nat) ≤ v) = true := by simp <;> omega
        have f6 : decide ((v : Int) ≤ (57 : Int)) = false := by simp <;> omega
        have f6n : decide (v ≤ (57 : Nat)) = false := by simp <;> omega
        have f7 : ((v : Int) == 95) = false := by simp <;> omega
        have hnc : isNC v = false := by simp only [isNC, decide_true, decide_false, Bool.or_eq_true, f1n, f2n, f3n, f4n, f5n, f6n]; simp <;> omega
        have hf : nameB s = false := name_false hlt (by rw [GK.out, hnc])
        have HF := hide hf
        clear hnc hf hlo hhi
        go_wp2_with fail
        go_ret
        exact ⟨ret_bool HF.out.symm, rfl⟩
    · have hd0 : decide (k < s.size) = false := by simpa using hlt
      have hd1 : decide ((k : Int) < (s.size : Int)) = false := by simpa using hlt
      have hn := name_size (s := s) (fun j hj => HALL.out j (by omega))
      have HN := hide hn
      clear hn
      go_wp2_with fail
      refine (within_any _ _ _ _).mono ?_
      rintro e w1 ⟨rfl, rfl⟩
      go_wp2_with fail
      go_ret
      refine ⟨?_, rfl⟩
      rw [HN.out]
      refine ret_bool ?_
      unfold inB
      congr 1 <;> (rw [decide_eq_decide]; omega)
end Go.Proofs.Ytiilkiggfjpibaa

namespace Go.Proofs.Ytiilkiggfjpibaa
open Go.RowKit LK
set_option linter.unusedVariables false
set_option linter.unusedSimpArgs false
def encSym (p : Sym) : List Value := encS p.1 ++ encI .i64 p.2
def encWnt (p : Wnt) : List Value := encI .i64 p.1 ++ (encI .i64 p.2.1 ++ encS p.2.2)
theorem Sl.sym {w : World} {A : Option Addr} {n c : Nat} {xs : List Sym} (h : Sl 2 encSym w A n c xs) (i : Nat) (hi : i < n) :
    ∃ b o nm at_, A = some ⟨b, o, none⟩ ∧ b < w.heap.size ∧ xs[i]? = some (nm, at_) ∧ w.cell? ⟨b, o + i * 2, none⟩ = some (.string nm) ∧ w.cell? ⟨b, o + i * 2 + 1, none⟩ = some (.int .i64 at_) := by
  obtain ⟨b, o, ⟨nm, at_⟩, e, hb, hx, hc⟩ := h.at_ (fun _ => rfl) (by decide) i hi
  exact ⟨b, o, nm, at_, e, hb, hx, by simpa using hc 0 _ rfl, hc 1 _ rfl⟩
theorem Sl.wnt {w : World} {A : Option Addr} {n c : Nat} {xs : List Wnt} (h : Sl 3 encWnt w A n c xs) (i : Nat) (hi : i < n) :
    ∃ b o at_ kd nm, A = some ⟨b, o, none⟩ ∧ b < w.heap.size ∧ xs[i]? = some (at_, kd, nm) ∧ w.cell? ⟨b, o + i * 3, none⟩ = some (.int .i64 at_) ∧ w.cell? ⟨b, o + i * 3 + 1, none⟩ = some (.int .i64 kd) ∧ w.cell? ⟨b, o + i * 3 + 2, none⟩ = some (.string nm) := by
  obtain ⟨b, o, ⟨at_, kd, nm⟩, e, hb, hx, hc⟩ := h.at_ (fun _ => rfl) (by decide) i hi
  exact ⟨b, o, at_, kd, nm, e, hb, hx, by simpa using hc 0 _ rfl, hc 1 _ rfl, hc 2 _ rfl⟩
theorem Sl.take {α : Type} {k : Nat} {enc : α → List Value} {w : World} {A : Option Addr} {n c : Nat} {xs : List α} (hk : ∀ x, (enc x).length = k) (h : Sl k enc w A n c xs) (m : Nat) (hm : m ≤ n) : Sl k enc w A m c (xs.take m) := by
  have hl := h.len
  refine ⟨?_, by rw [List.length_take]; omega, by have := h.cap; omega, h.most⟩
  have := h.rd.take (m * k)
  have e : (xs.flatMap enc).take (m * k) = (xs.take m).flatMap enc := by
    conv => lhs; rw [← List.take_append_drop m xs, List.flatMap_append]
    rw [List.take_left' (by rw [flatMap_length hk, List.length_take]; congr 1; omega)]
  rw [e] at this
  exact this
def symV (x : Sym) : Value := .agg #[.string x.1, .int .i64 x.2]
def wntV (x : Wnt) : Value := .agg #[.int .i64 x.1, .int .i64 x.2.1, .string x.2.2]
def IdxPost {α : Type} (p : α → Bool) (xs : List α) (w : World) (e : Ending) (w' : World) : Prop := ∃ z : Int, e = .returned (.int .i64 z) ∧ decide (0 ≤ z) = xs.any p ∧ Q w w'

/-- the closures -/
theorem nearC (g : Nat) (x y : Wnt) (w : World) (hg : g < w.heap.size) (k0 : w.cell? ⟨g, 0, none⟩ = some (.int .i64 y.1)) (hx0 : -100000 ≤ x.1) (hx1 : x.1 ≤ 100000) (hy0 : -100000 ≤ y.1) (hy1 : y.1 ≤ 100000) :
    Calls Try.prog 95 #[.agg #[.int .i64 x.1, .int .i64 x.2.1, .string x.2.2], .pointer (some ⟨g, 0, none⟩)] w fun e w' => e = .returned (.bool (near x y)) ∧ Q w w' := by
  obtain ⟨x0, x1, x2⟩ := x
  obtain ⟨y0, y1, y2⟩ := y
  dsimp only at *
  have hn : near (x0, x1, x2) (y0, y1, y2) = (decide (x0 < y0 + 4) && decide (y0 < x0 + 4)) := by
    unfold near
    dsimp only
    congr 1 <;> (rw [decide_eq_decide]; omega)
  rw [hn]
  clear hn
  cases h1 : decide (x0 < y0 + 4)
  · go_enter Try.func95, Try.ntmps95
    go_wp2_with fail
    go_ret
    exact ⟨rfl, (Q.refl w).alloc _⟩
  · cases h2 : decide (y0 < x0 + 4)
    · go_enter Try.func95, Try.ntmps95
      go_wp2_with fail
      go_ret
      exact ⟨rfl, (Q.refl w).alloc _⟩
    · go_enter Try.func95, Try.ntmps95
      go_wp2_with fail
      go_ret
      exact ⟨rfl, (Q.refl w).alloc _⟩
theorem sameC (g : Nat) (x : Sym) (nm : ByteArray) (w : World) (hg : g < w.heap.size) (k0 : w.cell? ⟨g, 0, none⟩ = some (.string nm)) :
    Calls Try.prog 71 #[.agg #[.string x.1, .int .i64 x.2], .pointer (some ⟨g, 0, none⟩)] w fun e w' => e = .returned (.bool (x.1.toList == nm.toList)) ∧ Q w w' := by
  obtain ⟨x0, x1⟩ := x
  dsimp only
  cases h1 : x0.toList == nm.toList
  all_goals (
    go_enter Try.func71, Try.ntmps71
    go_wp2_with fail
    go_ret
    exact ⟨rfl, (Q.refl w).alloc _⟩)
theorem hasC (g : Nat) (x : Sym) (nm : ByteArray) (w : World) (hg : g < w.heap.size) (k0 : w.cell? ⟨g, 0, none⟩ = some (.string nm)) :
    Calls Try.prog 100 #[.agg #[.string x.1, .int .i64 x.2], .pointer (some ⟨g, 0, none⟩)] w fun e w' => e = .returned (.bool (x.1.toList == nm.toList)) ∧ Q w w' := by
  obtain ⟨x0, x1⟩ := x
  dsimp only
  cases h1 : x0.toList == nm.toList
  all_goals (
    go_enter Try.func100, Try.ntmps100
    go_wp2_with fail
    go_ret
    exact ⟨rfl, (Q.refl w).alloc _⟩)
theorem wantC (g : Nat) (x : Wnt) (nm : ByteArray) (w : World) (hg : g < w.heap.size) (k0 : w.cell? ⟨g, 0, none⟩ = some (.string nm)) :
    Calls Try.prog 93 #[.agg #[.int .i64 x.1, .int .i64 x.2.1, .string x.2.2], .pointer (some ⟨g, 0, none⟩)] w fun e w' => e = .returned (.bool (x.2.2.toList == nm.toList)) ∧ Q w w' := by
  obtain ⟨x0, x1, x2⟩ := x
  dsimp only
  cases h1 : x2.toList == nm.toList
  all_goals (
    go_enter Try.func93, Try.ntmps93
    go_wp2_with fail
    go_ret
    exact ⟨rfl, (Q.refl w).alloc _⟩)

set_option maxHeartbeats 1000000 in
theorem idx_near (p : Wnt → Bool) (cap : Value) (A : Option Addr) (n c : Nat) (xs : List Wnt) (w : World) (h : Sl 3 encWnt w A n c xs) (hn : n ≤ 100000)
    (hf : ∀ at_ kd nm, (at_, kd, nm) ∈ xs → ∀ W, Q w W → Calls Try.prog 95 #[.agg #[.int .i64 at_, .int .i64 kd, .string nm], cap] W fun e w' => e = .returned (.bool (p (at_, kd, nm))) ∧ Q W w') :
    Calls Try.prog 103 #[.slice A n c, .func (.func 95) #[] #[cap]] w (IdxPost p xs w) := by
  have hl := h.len
  have H := hide h
  have HL := hide hl
  have HF := hide hf
  have hni : (n : Int) ≤ 100000 := by omega
  clear h hl hf
  go_enter Try.func103, Try.ntmps103
  go_wp2_with fail
  go_loopw [8] (fun vi wr => ∃ i : Nat, i ≤ n ∧ vi = .int .i64 i ∧ (∀ j x, j < i → xs[j]? = some x → p x = false) ∧ Q w wr) (fun vi _ => n - (intOf vi).toNat)
  case atStart => exact ⟨0, by omega, by go_num, fun j x hj => by omega, Q.refl _⟩
  case round =>
    obtain ⟨i, hi, rfl, hall, hq⟩ := hrel
    have HALL := hide hall
    clear hall
    have hsz := hq.size
    by_cases hlt : i < n
    · have hd0 : decide (i < n) = true := by simpa using hlt
      have hd1 : decide ((i : Int) < (n : Int)) = true := by simpa using hlt
      have hlti : (i : Int) < (n : Int) := by omega
      obtain ⟨b1, o1, at_, kd, nm, rfl, hb1, g1, x1, x2, x3⟩ := (H.out.up hq).wnt i hlt
      have hm := List.mem_of_getElem? g1
      have HC := hide (HF.out at_ kd nm hm)
      have G1 := hide g1
      clear g1 hm
      go_wp2_with fail
      refine (HC.out _ (by first | exact hq | exact hq.drew)).mono ?_
      rintro e w3 ⟨rfl, hq3⟩
      have hq2 : Q w w3 := by first | exact hq.trans hq3 | exact hq.drew.trans hq3
      cases hp : p (at_, kd, nm)
      · have HP := hide hp
        clear hp x1 x2 x3
        go_wp2_with fail
        go_roundw
        case rel => exact ⟨i + 1, by omega, by go_num, fun j x hj hx => by
          by_cases e : j = i
          · subst e
            rw [G1.out] at hx
            cases hx
            exact HP.out
          · exact HALL.out j x (by omega) hx, hq2⟩
        case measure => simp [intOf] <;> omega
      · have ha : xs.any p = true := List.any_eq_true.2 ⟨_, List.mem_of_getElem? G1.out, hp⟩
        have HA := hide ha
        clear hp ha x1 x2 x3
        go_wp2_with fail
        go_ret
        exact ⟨_, rfl, by rw [HA.out]; simp, hq2⟩
    · have hd0 : decide (i < n) = false := by simpa using hlt
      have hd1 : decide ((i : Int) < (n : Int)) = false := by simpa using hlt
      have ha : xs.any p = false := by
        rw [List.any_eq_false]
        intro x hx
        obtain ⟨j, hj, rfl⟩ := List.getElem_of_mem hx
        have := HALL.out j xs[j] (by have := HL.out; omega) (List.getElem?_eq_getElem hj)
        simp [this]
      have HA := hide ha
      clear ha
      go_wp2_with fail
      go_ret
      exact ⟨_, rfl, by rw [HA.out]; rfl, hq⟩
theorem has_near (p : Wnt → Bool) (cap : Value) (A : Option Addr) (n c : Nat) (xs : List Wnt) (w : World) (h : Sl 3 encWnt w A n c xs) (hn : n ≤ 100000)
    (hf : ∀ at_ kd nm, (at_, kd, nm) ∈ xs → ∀ W, Q w W → Calls Try.prog 95 #[.agg #[.int .i64 at_, .int .i64 kd, .string nm], cap] W fun e w' => e = .returned (.bool (p (at_, kd, nm))) ∧ Q W w') :
    Calls Try.prog 92 #[.slice A n c, .func (.func 95) #[] #[cap]] w fun e w' => e = .returned (.bool (xs.any p)) ∧ Q w w' := by
  have HI := hide (idx_near p cap A n c xs w h hn hf)
  clear h hf
  go_enter Try.func92, Try.ntmps92
  go_wp2_with fail
  refine HI.out.mono ?_
  rintro e w1 ⟨z, rfl, hz, hq1⟩
  have HZ := hide hz
  clear hz
  go_wp2_with fail
  go_ret
  exact ⟨ret_bool HZ.out, hq1⟩

set_option maxHeartbeats 1000000 in
theorem idx_wants (p : Wnt → Bool) (cap : Value) (A : Option Addr) (n c : Nat) (xs : List Wnt) (w : World) (h : Sl 3 encWnt w A n c xs) (hn : n ≤ 100000)
    (hf : ∀ at_ kd nm, (at_, kd, nm) ∈ xs → ∀ W, Q w W → Calls Try.prog 93 #[.agg #[.int .i64 at_, .int .i64 kd, .string nm], cap] W fun e w' => e = .returned (.bool (p (at_, kd, nm))) ∧ Q W w') :
    Calls Try.prog 103 #[.slice A n c, .func (.func 93) #[] #[cap]] w (IdxPost p xs w) := by
  have hl := h.len
  have H := hide h
  have HL := hide hl
  have HF := hide hf
  have hni : (n : Int) ≤ 100000 := by omega
  clear h hl hf
  go_enter Try.func103, Try.ntmps103
  go_wp2_with fail
  go_loopw [8] (fun vi wr => ∃ i : Nat, i ≤ n ∧ vi = .int .i64 i ∧ (∀ j x, j < i → xs[j]? = some x → p x = false) ∧ Q w wr) (fun vi _ => n - (intOf vi).toNat)
  case atStart => exact ⟨0, by omega, by go_num, fun j x hj => by omega, Q.refl _⟩
  case round =>
    obtain ⟨i, hi, rfl, hall, hq⟩ := hrel
    have HALL := hide hall
    clear hall
    have hsz := hq.size
    by_cases hlt : i < n
    · have hd0 : decide (i < n) = true := by simpa using hlt
      have hd1 : decide ((i : Int) < (n : Int)) = true := by simpa using hlt
      have hlti : (i : Int) < (n : Int) := by omega
      obtain ⟨b1, o1, at_, kd, nm, rfl, hb1, g1, x1, x2, x3⟩ := (H.out.up hq).wnt i hlt
      have hm := List.mem_of_getElem? g1
      have HC := hide (HF.out at_ kd nm hm)
      have G1 := hide g1
      clear g1 hm
      go_wp2_with fail
      refine (HC.out _ (by first | exact hq | exact hq.drew)).mono ?_
      rintro e w3 ⟨rfl, hq3⟩
      have hq2 : Q w w3 := by first | exact hq.trans hq3 | exact hq.drew.trans hq3
      cases hp : p (at_, kd, nm)
      · have HP := hide hp
        clear hp x1 x2 x3
        go_wp2_with fail
        go_roundw
        case rel => exact ⟨i + 1, by omega, by go_num, fun j x hj hx => by
          by_cases e : j = i
          · subst e
            rw [G1.out] at hx
            cases hx
            exact HP.out
          · exact HALL.out j x (by omega) hx, hq2⟩
        case measure => simp [intOf] <;> omega
      · have ha : xs.any p = true := List.any_eq_true.2 ⟨_, List.mem_of_getElem? G1.out, hp⟩
        have HA := hide ha
        clear hp ha x1 x2 x3
        go_wp2_with fail
        go_ret
        exact ⟨_, rfl, by rw [HA.out]; simp, hq2⟩
    · have hd0 : decide (i < n) = false := by simpa using hlt
      have hd1 : decide ((i : Int) < (n : Int)) = false := by simpa using hlt
      have ha : xs.any p = false := by
        rw [List.any_eq_false]
        intro x hx
        obtain ⟨j, hj, rfl⟩ := List.getElem_of_mem hx
        have := HALL.out j xs[j] (by have := HL.out; omega) (List.getElem?_eq_getElem hj)
        simp [this]
      have HA := hide ha
      clear ha
      go_wp2_with fail
      go_ret
      exact ⟨_, rfl, by rw [HA.out]; rfl, hq⟩
theorem has_wants (p : Wnt → Bool) (cap : Value) (A : Option Addr) (n c : Nat) (xs : List Wnt) (w : World) (h : Sl 3 encWnt w A n c xs) (hn : n ≤ 100000)
    (hf : ∀ at_ kd nm, (at_, kd, nm) ∈ xs → ∀ W, Q w W → Calls Try.prog 93 #[.agg #[.int .i64 at_, .int .i64 kd, .string nm], cap] W fun e w' => e = .returned (.bool (p (at_, kd, nm))) ∧ Q W w') :
    Calls Try.prog 92 #[.slice A n c, .func (.func 93) #[] #[cap]] w fun e w' => e = .returned (.bool (xs.any p)) ∧ Q w w' := by
  have HI := hide (idx_wants p cap A n c xs w h hn hf)
  clear h hf
  go_enter Try.func92, Try.ntmps92
  go_wp2_with fail
  refine HI.out.mono ?_
  rintro e w1 ⟨z, rfl, hz, hq1⟩
  have HZ := hide hz
  clear hz
  go_wp2_with fail
  go_ret
  exact ⟨ret_bool HZ.out, hq1⟩

set_option maxHeartbeats 1000000 in
theorem idx_twice (p : Sym → Bool) (cap : Value) (A : Option Addr) (n c : Nat) (xs : List Sym) (w : World) (h : Sl 2 encSym w A n c xs) (hn : n ≤ 100000)
    (hf : ∀ nm at_, (nm, at_) ∈ xs → ∀ W, Q w W → Calls Try.prog 71 #[.agg #[.string nm, .int .i64 at_], cap] W fun e w' => e = .returned (.bool (p (nm, at_))) ∧ Q W w') :
    Calls Try.prog 96 #[.slice A n c, .func (.func 71) #[] #[cap]] w (IdxPost p xs w) := by
  have hl := h.len
  have H := hide h
  have HL := hide hl
  have HF := hide hf
  have hni : (n : Int) ≤ 100000 := by omega
  clear h hl hf
  go_enter Try.func96, Try.ntmps96
  go_wp2_with fail
  go_loopw [8] (fun vi wr => ∃ i : Nat, i ≤ n ∧ vi = .int .i64 i ∧ (∀ j x, j < i → xs[j]? = some x → p x = false) ∧ Q w wr) (fun vi _ => n - (intOf vi).toNat)
  case atStart => exact ⟨0, by omega, by go_num, fun j x hj => by omega, Q.refl _⟩
  case round =>
    obtain ⟨i, hi, rfl, hall, hq⟩ := hrel
    have HALL := hide hall
    clear hall
    have hsz := hq.size
    by_cases hlt : i < n
    · have hd0 : decide (i < n) = true := by simpa using hlt
      have hd1 : decide ((i : Int) < (n : Int)) = true := by simpa using hlt
      have hlti : (i : Int) < (n : Int) := by omega
      obtain ⟨b1, o1, nm, at_, rfl, hb1, g1, x1, x2⟩ := (H.out.up hq).sym i hlt
      have hm := List.mem_of_getElem? g1
      have HC := hide (HF.out nm at_ hm)
      have G1 := hide g1
      clear g1 hm
      go_wp2_with fail
      refine (HC.out _ (by first | exact hq | exact hq.drew)).mono ?_
      rintro e w3 ⟨rfl, hq3⟩
      have hq2 : Q w w3 := by first | exact hq.trans hq3 | exact hq.drew.trans hq3
      cases hp : p (nm, at_)
      · have HP := hide hp
        clear hp x1 x2
        go_wp2_with fail
        go_roundw
        case rel => exact ⟨i + 1, by omega, by go_num, fun j x hj hx => by
          by_cases e : j = i
          · subst e
            rw [G1.out] at hx
            cases hx
            exact HP.out
          · exact HALL.out j x (by omega) hx, hq2⟩
        case measure => simp [intOf] <;> omega
      · have ha : xs.any p = true := List.any_eq_true.2 ⟨_, List.mem_of_getElem? G1.out, hp⟩
        have HA := hide ha
        clear hp ha x1 x2
        go_wp2_with fail
        go_ret
        exact ⟨_, rfl, by rw [HA.out]; simp, hq2⟩
    · have hd0 : decide (i < n) = false := by simpa using hlt
      have hd1 : decide ((i : Int) < (n : Int)) = false := by simpa using hlt
      have ha : xs.any p = false := by
        rw [List.any_eq_false]
        intro x hx
        obtain ⟨j, hj, rfl⟩ := List.getElem_of_mem hx
        have := HALL.out j xs[j] (by have := HL.out; omega) (List.getElem?_eq_getElem hj)
        simp [this]
      have HA := hide ha
      clear ha
      go_wp2_with fail
      go_ret
      exact ⟨_, rfl, by rw [HA.out]; rfl, hq⟩
theorem has_twice (p : Sym → Bool) (cap : Value) (A : Option Addr) (n c : Nat) (xs : List Sym) (w : World) (h : Sl 2 encSym w A n c xs) (hn : n ≤ 100000)
    (hf : ∀ nm at_, (nm, at_) ∈ xs → ∀ W, Q w W → Calls Try.prog 71 #[.agg #[.string nm, .int .i64 at_], cap] W fun e w' => e = .returned (.bool (p (nm, at_))) ∧ Q W w') :
    Calls Try.prog 70 #[.slice A n c, .func (.func 71) #[] #[cap]] w fun e w' => e = .returned (.bool (xs.any p)) ∧ Q w w' := by
  have HI := hide (idx_twice p cap A n c xs w h hn hf)
  clear h hf
  go_enter Try.func70, Try.ntmps70
  go_wp2_with fail
  refine HI.out.mono ?_
  rintro e w1 ⟨z, rfl, hz, hq1⟩
  have HZ := hide hz
  clear hz
  go_wp2_with fail
  go_ret
  exact ⟨ret_bool HZ.out, hq1⟩

set_option maxHeartbeats 1000000 in
theorem idx_has (p : Sym → Bool) (cap : Value) (A : Option Addr) (n c : Nat) (xs : List Sym) (w : World) (h : Sl 2 encSym w A n c xs) (hn : n ≤ 100000)
    (hf : ∀ nm at_, (nm, at_) ∈ xs → ∀ W, Q w W → Calls Try.prog 100 #[.agg #[.string nm, .int .i64 at_], cap] W fun e w' => e = .returned (.bool (p (nm, at_))) ∧ Q W w') :
    Calls Try.prog 96 #[.slice A n c, .func (.func 100) #[] #[cap]] w (IdxPost p xs w) := by
  have hl := h.len
  have H := hide h
  have HL := hide hl
  have HF := hide hf
  have hni : (n : Int) ≤ 100000 := by omega
  clear h hl hf
  go_enter Try.func96, Try.ntmps96
  go_wp2_with fail
  go_loopw [8] (fun vi wr => ∃ i : Nat, i ≤ n ∧ vi = .int .i64 i ∧ (∀ j x, j < i → xs[j]? = some x → p x = false) ∧ Q w wr) (fun vi _ => n - (intOf vi).toNat)
  case atStart => exact ⟨0, by omega, by go_num, fun j x hj => by omega, Q.refl _⟩
  case round =>
    obtain ⟨i, hi, rfl, hall, hq⟩ := hrel
    have HALL := hide hall
    clear hall
    have hsz := hq.size
    by_cases hlt : i < n
    · have hd0 : decide (i < n) = true := by simpa using hlt
      have hd1 : decide ((i : Int) < (n : Int)) = true := by simpa using hlt
      have hlti : (i : Int) < (n : Int) := by omega
      obtain ⟨b1, o1, nm, at_, rfl, hb1, g1, x1, x2⟩ := (H.out.up hq).sym i hlt
      have hm := List.mem_of_getElem? g1
      have HC := hide (HF.out nm at_ hm)
      have G1 := hide g1
      clear g1 hm
      go_wp2_with fail
      refine (HC.out _ (by first | exact hq | exact hq.drew)).mono ?_
      rintro e w3 ⟨rfl, hq3⟩
      have hq2 : Q w w3 := by first | exact hq.trans hq3 | exact hq.drew.trans hq3
      cases hp : p (nm, at_)
      · have HP := hide hp
        clear hp x1 x2
        go_wp2_with fail
        go_roundw
        case rel => exact ⟨i + 1, by omega, by go_num, fun j x hj hx => by
          by_cases e : j = i
          · subst e
            rw [G1.out] at hx
            cases hx
            exact HP.out
          · exact HALL.out j x (by omega) hx, hq2⟩
        case measure => simp [intOf] <;> omega
      · have ha : xs.any p = true := List.any_eq_true.2 ⟨_, List.mem_of_getElem? G1.out, hp⟩
        have HA := hide ha
        clear hp ha x1 x2
        go_wp2_with fail
        go_ret
        exact ⟨_, rfl, by rw [HA.out]; simp, hq2⟩
    · have hd0 : decide (i < n) = false := by simpa using hlt
      have hd1 : decide ((i : Int) < (n : Int)) = false := by simpa using hlt
      have ha : xs.any p = false := by
        rw [List.any_eq_false]
        intro x hx
        obtain ⟨j, hj, rfl⟩ := List.getElem_of_mem hx
        have := HALL.out j xs[j] (by have := HL.out; omega) (List.getElem?_eq_getElem hj)
        simp [this]
      have HA := hide ha
      clear ha
      go_wp2_with fail
      go_ret
      exact ⟨_, rfl, by rw [HA.out]; rfl, hq⟩
theorem has_has (p : Sym → Bool) (cap : Value) (A : Option Addr) (n c : Nat) (xs : List Sym) (w : World) (h : Sl 2 encSym w A n c xs) (hn : n ≤ 100000)
    (hf : ∀ nm at_, (nm, at_) ∈ xs → ∀ W, Q w W → Calls Try.prog 100 #[.agg #[.string nm, .int .i64 at_], cap] W fun e w' => e = .returned (.bool (p (nm, at_))) ∧ Q W w') :
    Calls Try.prog 70 #[.slice A n c, .func (.func 100) #[] #[cap]] w fun e w' => e = .returned (.bool (xs.any p)) ∧ Q w w' := by
  have HI := hide (idx_has p cap A n c xs w h hn hf)
  clear h hf
  go_enter Try.func70, Try.ntmps70
  go_wp2_with fail
  refine HI.out.mono ?_
  rintro e w1 ⟨z, rfl, hz, hq1⟩
  have HZ := hide hz
  clear hz
  go_wp2_with fail
  go_ret
  exact ⟨ret_bool HZ.out, hq1⟩
end Go.Proofs.Ytiilkiggfjpibaa

namespace Go.Proofs.Ytiilkiggfjpibaa
open Go.RowKit LK
set_option linter.unusedVariables false
set_option linter.unusedSimpArgs false
abbrev OV := SlV Int × SlV Sym × SlV Wnt
def encO (p : OV) : List Value := encV p.1 ++ (encV p.2.1 ++ encV p.2.2)
/-- an object that lies in memory -/
structure ObR (w : World) (o : OV) : Prop where
  b : Sl 1 (encI .u8) w o.1.A o.1.n o.1.c o.1.xs
  s : Sl 2 encSym w o.2.1.A o.2.1.n o.2.1.c o.2.1.xs
  t : Sl 3 encWnt w o.2.2.A o.2.2.n o.2.2.c o.2.2.xs
  bn : o.1.A = none → o.1.n = 0 ∧ o.1.c = 0
  sn : o.2.1.A = none → o.2.1.n = 0 ∧ o.2.1.c = 0
  tn : o.2.2.A = none → o.2.2.n = 0 ∧ o.2.2.c = 0
  bok : ∀ x ∈ o.1.xs, 0 ≤ x ∧ x < 256
  sok : ∀ x ∈ o.2.1.xs, x.1.size ≤ 140737488351232
  tok : ∀ x ∈ o.2.2.xs, x.2.2.size ≤ 140737488351232
theorem ObR.up {w w' : World} {o : OV} (h : ObR w o) (hq : Q w w') : ObR w' o := ⟨h.b.up hq, h.s.up hq, h.t.up hq, h.bn, h.sn, h.tn, h.bok, h.sok, h.tok⟩
def obV (o : OV) : Value := .agg #[o.1.val, o.2.1.val, o.2.2.val]
def OV.valid (o : OV) : Nat := validF o.1.n o.2.1.xs o.2.2.xs
theorem sound_sym {n : Nat} {ss : List Sym} {ws : List Wnt} {k : Nat} {x : Sym} (h : ss[k]? = some x) (hx : symOk n x = false) : soundB n ss ws = false := by
  unfold soundB
  have : ss.all (symOk n) = false := by
    rw [List.all_eq_false]
    exact ⟨x, List.mem_of_getElem? h, by simp [hx]⟩
  rw [this]
  rfl
theorem sound_syms {n : Nat} {ss : List Sym} {ws : List Wnt} (h : ∀ j x, j < ss.length → ss[j]? = some x → symOk n x = true) : soundB n ss ws = wantsOk n [] ws := by
  unfold soundB
  have : ss.all (symOk n) = true := by
    rw [List.all_eq_true]
    intro x hx
    obtain ⟨j, hj, rfl⟩ := List.getElem_of_mem hx
    exact h j _ hj (List.getElem?_eq_getElem hj)
  rw [this]
  rfl
theorem wants_step {n : Nat} {ws : List Wnt} {k : Nat} {x : Wnt} (h : ws[k]? = some x) : wantsOk n (ws.take k) (ws.drop k) = (wntOk n x && !((ws.take k).any fun y => near y x) && wantsOk n (ws.take (k + 1)) (ws.drop (k + 1))) := by
  obtain ⟨hk, e⟩ := List.getElem?_eq_some_iff.1 h
  rw [List.drop_eq_getElem_cons hk, wantsOk, e, List.take_succ_eq_append_getElem hk, e]
set_option maxRecDepth 100000 in
set_option maxHeartbeats 4000000 in
theorem isSound_any (A0 : Option Addr) (n0 c0 : Nat) (A1 : Option Addr) (n1 c1 : Nat) (ss : List Sym) (A2 : Option Addr) (n2 c2 : Nat) (ws : List Wnt) (w : World) (hS : Sl 2 encSym w A1 n1 c1 ss) (hT : Sl 3 encWnt w A2 n2 c2 ws)
    (hs : ∀ x ∈ ss, x.1.size ≤ 140737488351232) (ht : ∀ x ∈ ws, x.2.2.size ≤ 140737488351232) (hn0 : n0 ≤ 512) (hn1 : n1 ≤ 16) (hn2 : n2 ≤ 16) :
    Calls Try.prog 69 #[.agg #[.slice A0 n0 c0, .slice A1 n1 c1, .slice A2 n2 c2]] w fun e w' => e = .returned (.bool (soundB n0 ss ws)) ∧ Q w w' := by
  have l1 := hS.len
  have l2 := hT.len
  have HS := hide hS
  have HT := hide hT
  have Hs := hide hs
  have Ht := hide ht
  have L1 := hide l1
  have L2 := hide l2
  have hn0i : (n0 : Int) ≤ 512 := by omega
  have hn1i : (n1 : Int) ≤ 16 := by omega
  have hn2i : (n2 : Int) ≤ 16 := by omega
  clear hS hT hs ht l1 l2
  obtain ⟨w1, hw1⟩ : ∃ w1, w.alloc (.cells #[.slice A0 n0 c0, .slice A1 n1 c1, .slice A2 n2 c2] 34) = w1 := ⟨_, rfl⟩
  have hq1 : Q w w1 := by rw [← hw1]; exact (Q.refl w).alloc _
  have hs1 : w.heap.size < w1.heap.size := by rw [← hw1]; simp
  have kb0 : w1.cell? ⟨w.heap.size, 0, none⟩ = some (.slice A0 n0 c0) := by rw [← hw1]; simp
  have kb2 : w1.cell? ⟨w.heap.size, 2, none⟩ = some (.slice A2 n2 c2) := by rw [← hw1]; simp
  have HW1 := hide hw1
  have KB0 := hide kb0
  have KB2 := hide kb2
  clear hw1 kb0 kb2
  go_enter Try.func69, Try.ntmps69
  go_wp2_with fail
  rw [HW1.out]
  go_loopw [10] (fun vi wr => ∃ k : Nat, k ≤ n1 ∧ vi = .int .i64 k ∧ (∀ j x, j < k → ss[j]? = some x → symOk n0 x = true) ∧ Q w1 wr) (fun vi _ => n1 - (intOf vi).toNat)
  case atStart => exact ⟨0, by omega, by go_num, fun j x hj => by omega, Q.refl _⟩
  case round =>
    obtain ⟨k, hk, rfl, hall, hq⟩ := hrel
    have HALL := hide hall
    clear hall
    have hsz := hq.size
    by_cases hlt : k < n1
    · have hd1 : decide ((k : Int) < (n1 : Int)) = true := by simp; omega
      have hd0 : decide (k < n1) = true := by simp; omega
      have hlti : (k : Int) < (n1 : Int) := by omega
      obtain ⟨b1, o1, nm, at_, rfl, hb1, g1, x1, x2⟩ := (HS.out.up (hq1.trans hq)).sym k hlt
      have hnm := Hs.out _ (List.mem_of_getElem? g1)
      dsimp only at hnm
      have G1 := hide g1
      have HQ := hide hq
      clear g1 hq
      go_wp2_with fail
      refine (isName_any nm _ hnm).mono ?_
      rintro e w3 ⟨rfl, hq3⟩
      have hq13 : Q wr w3 := ((Q.refl wr).alloc _).trans hq3
      have z2 : w3.cell? ⟨wr.heap.size, 1, none⟩ = some (.int .i64 at_) := by rw [hq3.facts.1 _ _ (by simp)]; simp
      have kb := ((HQ.out.trans hq13).facts.1 _ 0 hs1).trans KB0.out
      have hsz3 : wr.heap.size < w3.heap.size := by have := hq3.size; simp at this; omega
      have hwz3 : w.heap.size < w3.heap.size := by omega
      have hq03 := (hq1.trans HQ.out).trans hq13
      clear x1 x2
      cases hnb : nameB nm
      · have hf : soundB n0 ss ws = false := sound_sym G1.out (by simp [symOk, hnb])
        have HF := hide hf
        clear hf hnb
        go_wp2_with fail
        go_ret
        exact ⟨ret_bool HF.out.symm, hq03⟩
      · by_cases ha : at_ < 0
        · have da : decide (at_ < 0) = true := by simpa using ha
          have hf : soundB n0 ss ws = false := sound_sym G1.out (by simp [symOk]; intro _ _; omega)
          have HF := hide hf
          clear hf hnb ha
          go_wp2_with fail
          go_ret
          exact ⟨ret_bool HF.out.symm, hq03⟩
        · have da : decide (at_ < 0) = false := by simpa using ha
          by_cases hb : (n0 : Int) < at_
          · have db : decide ((n0 : Int) < at_) = true := by simpa using hb
            have hf : soundB n0 ss ws = false := sound_sym G1.out (by simp [symOk]; intro _ _; omega)
            have HF := hide hf
            clear hf hnb ha hb
            go_wp2_with fail
            go_ret
            exact ⟨ret_bool HF.out.symm, hq03⟩
          · have db : decide ((n0 : Int) < at_) = false := by simpa using hb
            have hok : symOk n0 (nm, at_) = true := by simp [symOk, hnb]; omega
            have HOK := hide hok
            have hqw := HQ.out.trans hq13
            clear hok hnb ha hb
            go_wp2_with fail
            go_roundw
            case rel => exact ⟨k + 1, by omega, by go_num, fun j x hj hx => by
              by_cases e : j = k
              · subst e
                rw [G1.out] at hx
                cases hx
                exact HOK.out
              · exact HALL.out j x (by omega) hx, hqw⟩
            case measure => simp [intOf] <;> omega
    · have hd1 : decide ((k : Int) < (n1 : Int)) = false := by simp; omega
      have hd0 : decide (k < n1) = false := by simp; omega
      have hsy := sound_syms (ws := ws) (n := n0) (fun j x hj hx => HALL.out j x (by have := L1.out; omega) hx)
      have HSY := hide hsy
      have kb2 := (hq.facts.1 _ 2 hs1).trans KB2.out
      obtain ⟨w2, rfl⟩ : ∃ w2 : World, w2 = wr := ⟨_, rfl⟩
      have hq02 := hq1.trans hq
      have HQ2 := hide hq
      have hs2 : w.heap.size < w2.heap.size := by omega
      clear hq hsy hlt hk HALL
      go_wp2_with fail
      clear hd1 hd0
      go_loopw [35] (fun vi wr => ∃ k : Nat, k ≤ n2 ∧ vi = .int .i64 k ∧ (∀ j x, j < k → ws[j]? = some x → wntOk n0 x = true) ∧ wantsOk n0 [] ws = wantsOk n0 (ws.take k) (ws.drop k) ∧ Q w2 wr) (fun vi _ => n2 - (intOf vi).toNat)
      case atStart => exact ⟨0, by omega, by go_num, fun j x hj => by omega, rfl, Q.refl _⟩
      case round =>
        obtain ⟨k, hk, rfl, hall, hw, hq⟩ := hrel
        have HALL := hide hall
        have HW := hide hw
        clear hall hw kb2
        have hsz := hq.size
        have kb0 := ((HQ2.out.trans hq).facts.1 _ 0 hs1).trans KB0.out
        have kb2 := ((HQ2.out.trans hq).facts.1 _ 2 hs1).trans KB2.out
        have hswr : w.heap.size < wr.heap.size := by omega
        by_cases hlt : k < n2
        · have hd1 : decide ((k : Int) < (n2 : Int)) = true := by simp; omega
          have hd0 : decide (k < n2) = true := by simp; omega
          have hlti : (k : Int) < (n2 : Int) := by omega
          have hT' := HT.out.up (hq02.trans hq)
          obtain ⟨b1, o1, at_, kd, nm, rfl, hb1, g1, x1, x2, x3⟩ := hT'.wnt k hlt
          have hnm := Ht.out _ (List.mem_of_getElem? g1)
          dsimp only at hnm
          have hkc : k ≤ c2 := by have := hT'.cap; omega
          have hkci : (k : Int) ≤ (c2 : Int) := by omega
          have hcm := hT'.most
          have hstep := wants_step (n := n0) g1
          have HST := hide hstep
          have G1 := hide g1
          have HQ := hide hq
          have HTK := hide (Sl.take (k := 3) (enc := encWnt) (fun _ => rfl) hT' k (by omega))
          clear g1 hq hstep hT'
          go_wp2_with fail
          refine (isName_any nm _ hnm).mono ?_
          rintro e w3 ⟨rfl, hq3⟩
          have hq13 : Q wr w3 := ((Q.refl wr).alloc _).trans hq3
          have z0 : w3.cell? ⟨wr.heap.size, 0, none⟩ = some (.int .i64 at_) := by rw [hq3.facts.1 _ _ (by simp)]; simp
          have z1 : w3.cell? ⟨wr.heap.size, 1, none⟩ = some (.int .i64 kd) := by rw [hq3.facts.1 _ _ (by simp)]; simp
          have kc0 := (hq13.facts.1 _ 0 hswr).trans kb0
          have kc2 := (hq13.facts.1 _ 2 hswr).trans kb2
          have hsz3 : wr.heap.size < w3.heap.size := by have := hq3.size; simp at this; omega
          have hwz3 : w.heap.size < w3.heap.size := by omega
          have hq03 := (hq02.trans HQ.out).trans hq13
          clear x1 x2 x3 kb0 kb2
          have hbad : wntOk n0 (at_, kd, nm) = false → soundB n0 ss ws = false := fun h => by
            rw [HSY.out, HW.out, HST.out, h]; rfl
          have HBAD := hide hbad
          clear hbad
          cases hnb : nameB nm
          · have HF := hide (HBAD.out (by simp [wntOk, hnb]))
            clear hnb
            go_wp2_with fail
            go_ret
            exact ⟨ret_bool HF.out.symm, hq03⟩
          · by_cases ha : at_ < 0
            · have da : decide (at_ < 0) = true := by simpa using ha
              have HF := hide (HBAD.out (by simp [wntOk]; intros; omega))
              clear hnb ha
              go_wp2_with fail
              go_ret
              exact ⟨ret_bool HF.out.symm, hq03⟩
            · have da : decide (at_ < 0) = false := by simpa using ha
              by_cases hb : (n0 : Int) - 4 < at_
              · have db : decide ((n0 : Int) - 4 < at_) = true := by simpa using hb
                have HF := hide (HBAD.out (by simp [wntOk]; intros; omega))
                clear hnb ha hb
                go_wp2_with fail
                go_ret
                exact ⟨ret_bool HF.out.symm, hq03⟩
              · have db : decide ((n0 : Int) - 4 < at_) = false := by simpa using hb
                by_cases hc : kd < 0
                · have dc : decide (kd < 0) = true := by simpa using hc
                  have HF := hide (HBAD.out (by simp [wntOk]; intros; omega))
                  clear hnb ha hb hc
                  go_wp2_with fail
                  go_ret
                  exact ⟨ret_bool HF.out.symm, hq03⟩
                · have dc : decide (kd < 0) = false := by simpa using hc
                  by_cases he : 1 < kd
                  · have de : decide (1 < kd) = true := by simpa using he
                    have HF := hide (HBAD.out (by simp [wntOk]; intros; omega))
                    clear hnb ha hb hc he
                    go_wp2_with fail
                    go_ret
                    exact ⟨ret_bool HF.out.symm, hq03⟩
                  · have de : decide (1 < kd) = false := by simpa using he
                    have hok : wntOk n0 (at_, kd, nm) = true := by simp [wntOk, hnb]; omega
                    have HOK := hide hok
                    have hb0 : 0 ≤ at_ := by omega
                    have hb1' : at_ ≤ 100000 := by omega
                    have HN := hide (has_near (fun y => near y (at_, kd, nm)) (.pointer (some ⟨wr.heap.size, 0, none⟩)) (some ⟨b1, o1, none⟩) k c2 (ws.take k) w3 (HTK.out.up hq13) (by omega) (fun at' kd' nm' hm W hqW => by
                      obtain ⟨j, hj, ej⟩ := List.getElem_of_mem hm
                      rw [List.length_take] at hj
                      have hjk : ws[j]? = some (at', kd', nm') := by rw [← ej, List.getElem_take]; exact List.getElem?_eq_getElem (by omega)
                      have hw := HALL.out j _ (by omega) hjk
                      simp [wntOk] at hw
                      exact nearC wr.heap.size (at', kd', nm') (at_, kd, nm) W (by have := hqW.size; omega) ((hqW.facts.1 _ _ hsz3).trans z0) (by dsimp only; omega) (by dsimp only; omega) (by dsimp only; omega) (by dsimp only; omega)))
                    clear hok hnb ha hb hc he
                    go_wp2_with fail
                    refine HN.out.mono ?_
                    rintro e w4 ⟨rfl, hq4⟩
                    have hq04 := hq03.trans hq4
                    have hqw2 := (HQ.out.trans hq13).trans hq4
                    cases hany : (ws.take k).any fun y => near y (at_, kd, nm)
                    · have hnx : wantsOk n0 [] ws = wantsOk n0 (ws.take (k + 1)) (ws.drop (k + 1)) := by rw [HW.out, HST.out, HOK.out, hany]; rfl
                      have HNX := hide hnx
                      clear hany hnx z0 z1 kc0 kc2
                      go_wp2_with fail
                      go_roundw
                      case rel => exact ⟨k + 1, by omega, by go_num, fun j x hj hx => by
                        by_cases e : j = k
                        · subst e
                          rw [G1.out] at hx
                          cases hx
                          exact HOK.out
                        · exact HALL.out j x (by omega) hx, HNX.out, hqw2⟩
                      case measure => simp [intOf] <;> omega
                    · have hf : soundB n0 ss ws = false := by rw [HSY.out, HW.out, HST.out, HOK.out, hany]; rfl
                      have HF := hide hf
                      clear hf hany z0 z1 kc0 kc2
                      go_wp2_with fail
                      go_ret
                      exact ⟨ret_bool HF.out.symm, hq04⟩
        · have hd1 : decide ((k : Int) < (n2 : Int)) = false := by simp; omega
          have hd0 : decide (k < n2) = false := by simp; omega
          obtain rfl : k = n2 := by omega
          have hf : soundB n0 ss ws = true := by rw [HSY.out, HW.out, List.drop_eq_nil_of_le (by have := L2.out; omega)]; rfl
          have HF := hide hf
          have hq0 := hq02.trans hq
          clear hf kb0 kb2 hq
          go_wp2_with fail
          go_ret
          exact ⟨ret_bool HF.out.symm, hq0⟩
end Go.Proofs.Ytiilkiggfjpibaa

namespace Go.Proofs.Ytiilkiggfjpibaa
open Go.RowKit LK
set_option linter.unusedVariables false
set_option linter.unusedSimpArgs false
theorem dup_step {ss : List Sym} {k : Nat} {x : Sym} (h : ss[k]? = some x) : dupB ((ss.take k).map (·.1)) ((ss.drop k).map (·.1)) = ((ss.take k).any (fun y => y.1.toList == x.1.toList) || dupB ((ss.take (k + 1)).map (·.1)) ((ss.drop (k + 1)).map (·.1))) := by
  obtain ⟨hk, e⟩ := List.getElem?_eq_some_iff.1 h
  rw [List.drop_eq_getElem_cons hk, List.map_cons, dupB, e, List.take_succ_eq_append_getElem hk, e, List.map_append, List.any_map]
  rfl
theorem valid_big {n : Nat} {ss : List Sym} {ws : List Wnt} (h : 512 < n ∨ 16 < ss.length ∨ 16 < ws.length) : validF n ss ws = 3 := by unfold validF; rw [if_pos h]
theorem valid_arg {n : Nat} {ss : List Sym} {ws : List Wnt} (h : ¬ (512 < n ∨ 16 < ss.length ∨ 16 < ws.length)) (h2 : soundB n ss ws = false) : validF n ss ws = 1 := by unfold validF; rw [if_neg h, if_pos h2]
theorem valid_dup {n : Nat} {ss : List Sym} {ws : List Wnt} (h : ¬ (512 < n ∨ 16 < ss.length ∨ 16 < ws.length)) (h2 : soundB n ss ws = true) (h3 : dupB [] (ss.map (·.1)) = true) : validF n ss ws = 5 := by unfold validF; rw [if_neg h, if_neg (by simp [h2]), if_pos h3]
theorem valid_ok {n : Nat} {ss : List Sym} {ws : List Wnt} (h : ¬ (512 < n ∨ 16 < ss.length ∨ 16 < ws.length)) (h2 : soundB n ss ws = true) (h3 : dupB [] (ss.map (·.1)) = false) : validF n ss ws = 0 := by unfold validF; rw [if_neg h, if_neg (by simp [h2]), if_neg (by simp [h3])]
set_option maxRecDepth 100000 in
set_option maxHeartbeats 4000000 in
theorem Validate_any (A0 : Option Addr) (n0 c0 : Nat) (A1 : Option Addr) (n1 c1 : Nat) (ss : List Sym) (A2 : Option Addr) (n2 c2 : Nat) (ws : List Wnt) (w : World) (hS : Sl 2 encSym w A1 n1 c1 ss) (hT : Sl 3 encWnt w A2 n2 c2 ws)
    (hs : ∀ x ∈ ss, x.1.size ≤ 140737488351232) (ht : ∀ x ∈ ws, x.2.2.size ≤ 140737488351232) :
    Calls Try.prog 31 #[.agg #[.slice A0 n0 c0, .slice A1 n1 c1, .slice A2 n2 c2]] w fun e w' => e = .returned (.int .i64 (validF n0 ss ws : Nat)) ∧ Q w w' := by
  have l1 := hS.len
  have l2 := hT.len
  by_cases b0 : 512 < n0
  · have d0 : decide ((512 : Int) < (n0 : Int)) = true := by simp; omega
    have e := valid_big (n := n0) (ss := ss) (ws := ws) (.inl b0)
    have E := hide e
    clear hS hT hs ht l1 l2 e
    go_enter Try.func31, Try.ntmps31
    go_wp2_with fail
    go_ret
    exact ⟨by rw [E.out]; rfl, (Q.refl w).alloc _⟩
  have d0 : decide ((512 : Int) < (n0 : Int)) = false := by simp; omega
  by_cases b1 : 16 < n1
  · have d1 : decide ((16 : Int) < (n1 : Int)) = true := by simp; omega
    have e := valid_big (n := n0) (ss := ss) (ws := ws) (.inr (.inl (by omega)))
    have E := hide e
    clear hS hT hs ht l1 l2 e
    go_enter Try.func31, Try.ntmps31
    go_wp2_with fail
    go_ret
    exact ⟨by rw [E.out]; rfl, (Q.refl w).alloc _⟩
  have d1 : decide ((16 : Int) < (n1 : Int)) = false := by simp; omega
  by_cases b2 : 16 < n2
  · have d2 : decide ((16 : Int) < (n2 : Int)) = true := by simp; omega
    have e := valid_big (n := n0) (ss := ss) (ws := ws) (.inr (.inr (by omega)))
    have E := hide e
    clear hS hT hs ht l1 l2 e
    go_enter Try.func31, Try.ntmps31
    go_wp2_with fail
    go_ret
    exact ⟨by rw [E.out]; rfl, (Q.refl w).alloc _⟩
  have d2 : decide ((16 : Int) < (n2 : Int)) = false := by simp; omega
  have hnb : ¬ (512 < n0 ∨ 16 < ss.length ∨ 16 < ws.length) := by omega
  have HNB := hide hnb
  have hq1 : Q w (w.alloc (.cells #[.slice A0 n0 c0, .slice A1 n1 c1, .slice A2 n2 c2] 34)) := (Q.refl w).alloc _
  have HSO := hide (isSound_any A0 n0 c0 A1 n1 c1 ss A2 n2 c2 ws _ (hS.up hq1) (hT.up hq1) hs ht (by omega) (by omega) (by omega))
  have HS := hide hS
  have L1 := hide l1
  have hn1i : (n1 : Int) ≤ 16 := by omega
  clear hS hT hs ht l2 hnb l1
  go_enter Try.func31, Try.ntmps31
  go_wp2_with fail
  refine HSO.out.mono ?_
  rintro e w2 ⟨rfl, hq2⟩
  have hq02 := hq1.trans hq2
  have hs2 : w.heap.size < w2.heap.size := by have := hq2.size; simp at this; omega
  have kb1 : w2.cell? ⟨w.heap.size, 1, none⟩ = some (.slice A1 n1 c1) := by rw [hq2.facts.1 _ _ (by simp)]; simp
  have KB1 := hide kb1
  cases hso : soundB n0 ss ws
  · have E := hide (valid_arg HNB.out hso)
    clear hso
    go_wp2_with fail
    go_ret
    exact ⟨by rw [E.out]; rfl, hq02⟩
  · have HSOK := hide hso
    clear hso hq1 hq2
    go_wp2_with fail
    clear kb1 d0 d1 d2
    go_loopw [27] (fun vi wr => ∃ k : Nat, k ≤ n1 ∧ vi = .int .i64 k ∧ dupB [] (ss.map (·.1)) = dupB ((ss.take k).map (·.1)) ((ss.drop k).map (·.1)) ∧ Q w2 wr) (fun vi _ => n1 - (intOf vi).toNat)
    case atStart => exact ⟨0, by omega, by go_num, rfl, Q.refl _⟩
    case round =>
      obtain ⟨k, hk, rfl, hd, hq⟩ := hrel
      have HD := hide hd
      have hsz := hq.size
      have kb1 := (hq.facts.1 _ 1 hs2).trans KB1.out
      have hswr : w.heap.size < wr.heap.size := by omega
      clear hd
      by_cases hlt : k < n1
      · have hd1 : decide ((k : Int) < (n1 : Int)) = true := by simp; omega
        have hd0 : decide (k < n1) = true := by simp; omega
        have hlti : (k : Int) < (n1 : Int) := by omega
        have hS' := HS.out.up (hq02.trans hq)
        obtain ⟨b1, o1, nm, at_, rfl, hb1, g1, x1, x2⟩ := hS'.sym k hlt
        have hkc : k ≤ c1 := by have := hS'.cap; omega
        have hkci : (k : Int) ≤ (c1 : Int) := by omega
        have hcm := hS'.most
        have hstep := dup_step g1
        have HST := hide hstep
        have HQ := hide hq
        have hqa : Q wr (wr.alloc (.cells #[.string nm, .int .i64 at_] 94)) := (Q.refl wr).alloc _
        have HN := hide (has_twice (fun y => y.1.toList == nm.toList) (.pointer (some ⟨wr.heap.size, 0, none⟩)) (some ⟨b1, o1, none⟩) k c1 (ss.take k) _ ((Sl.take (k := 2) (enc := encSym) (fun _ => rfl) hS' k (by omega)).up hqa) (by omega) (fun nm' at' hm W hqW => sameC wr.heap.size (nm', at') nm W (by have := hqW.size; simp at this; omega) (by rw [hqW.facts.1 _ _ (by simp)]; simp)))
        clear g1 hq hstep hS'
        go_wp2_with fail
        refine HN.out.mono ?_
        rintro e w3 ⟨rfl, hq3⟩
        have hq03 := ((hq02.trans HQ.out).trans hqa).trans hq3
        have hqw2 := (HQ.out.trans hqa).trans hq3
        cases hany : (ss.take k).any fun y => y.1.toList == nm.toList
        · have hnx : dupB [] (ss.map (·.1)) = dupB ((ss.take (k + 1)).map (·.1)) ((ss.drop (k + 1)).map (·.1)) := by rw [HD.out, HST.out, hany]; rfl
          have HNX := hide hnx
          clear hany hnx x1 x2 kb1
          go_wp2_with fail
          go_roundw
          case rel => exact ⟨k + 1, by omega, by go_num, HNX.out, hqw2⟩
          case measure => simp [intOf] <;> omega
        · have hf : dupB [] (ss.map (·.1)) = true := by rw [HD.out, HST.out, hany]; rfl
          have E := hide (valid_dup HNB.out HSOK.out hf)
          clear hf hany x1 x2 kb1
          go_wp2_with fail
          go_ret
          exact ⟨by rw [E.out]; rfl, hq03⟩
      · have hd1 : decide ((k : Int) < (n1 : Int)) = false := by simp; omega
        have hd0 : decide (k < n1) = false := by simp; omega
        have hf : dupB [] (ss.map (·.1)) = false := by rw [HD.out, List.drop_eq_nil_of_le (by have := L1.out; omega)]; rfl
        have E := hide (valid_ok HNB.out HSOK.out hf)
        have hq0 := hq02.trans hq
        clear hf kb1 hq
        go_wp2_with fail
        go_ret
        exact ⟨by rw [E.out]; rfl, hq0⟩
end Go.Proofs.Ytiilkiggfjpibaa

namespace Go.Proofs.Ytiilkiggfjpibaa
open Go.RowKit LK
set_option linter.unusedVariables false
set_option linter.unusedSimpArgs false
theorem near_in (x y : Wnt) : inB (y.1 - x.1) (-3) 3 = near x y := rfl
theorem any_take_false {α : Type} {p : α → Bool} {l : List α} {k : Nat} (h : ∀ j x, j < k → l[j]? = some x → p x = false) : (l.take k).any p = false := by
  rw [List.any_eq_false]
  intro x hx
  obtain ⟨j, hj, rfl⟩ := List.getElem_of_mem hx
  rw [List.length_take] at hj
  have := h j l[j] (by omega) (List.getElem?_eq_getElem (by omega))
  rw [List.getElem_take, this]
  exact Bool.false_ne_true
theorem any_take_true {α : Type} {p : α → Bool} {l : List α} {k j : Nat} {x : α} (hj : j < k) (h : l[j]? = some x) (hp : p x = true) : (l.take k).any p = true := by
  rw [List.any_eq_true]
  obtain ⟨hl, e⟩ := List.getElem?_eq_some_iff.1 h
  exact ⟨x, List.mem_of_getElem? (i := j) (by rw [List.getElem?_take, if_pos hj]; exact h), hp⟩
set_option maxRecDepth 100000 in
set_option maxHeartbeats 8000000 in
theorem rValidate_any (A0 : Option Addr) (n0 c0 : Nat) (A1 : Option Addr) (n1 c1 : Nat) (ss : List Sym) (A2 : Option Addr) (n2 c2 : Nat) (ws : List Wnt) (w : World) (hS : Sl 2 encSym w A1 n1 c1 ss) (hT : Sl 3 encWnt w A2 n2 c2 ws)
    (hs : ∀ x ∈ ss, x.1.size ≤ 140737488351232) (ht : ∀ x ∈ ws, x.2.2.size ≤ 140737488351232) :
    Calls Try.prog 32 #[.agg #[.slice A0 n0 c0, .slice A1 n1 c1, .slice A2 n2 c2]] w fun e w' => e = .returned (.int .i64 (validF n0 ss ws : Nat)) ∧ Q w w' := by
  have l1 := hS.len
  have l2 := hT.len
  by_cases b0 : 512 < n0
  · have d0 : decide ((512 : Int) < (n0 : Int)) = true := by simp; omega
    have e := valid_big (n := n0) (ss := ss) (ws := ws) (.inl b0)
    have E := hide e
    clear hS hT hs ht l1 l2 e
    go_enter Try.func32, Try.ntmps32
    go_wp2_with fail
    go_ret
    exact ⟨by rw [E.out]; rfl, (Q.refl w).alloc _⟩
  have d0 : decide ((512 : Int) < (n0 : Int)) = false := by simp; omega
  by_cases b1 : 16 < n1
  · have d1 : decide ((16 : Int) < (n1 : Int)) = true := by simp; omega
    have e := valid_big (n := n0) (ss := ss) (ws := ws) (.inr (.inl (by omega)))
    have E := hide e
    clear hS hT hs ht l1 l2 e
    go_enter Try.func32, Try.ntmps32
    go_wp2_with fail
    go_ret
    exact ⟨by rw [E.out]; rfl, (Q.refl w).alloc _⟩
  have d1 : decide ((16 : Int) < (n1 : Int)) = false := by simp; omega
  by_cases b2 : 16 < n2
  · have d2 : decide ((16 : Int) < (n2 : Int)) = true := by simp; omega
    have e := valid_big (n := n0) (ss := ss) (ws := ws) (.inr (.inr (by omega)))
    have E := hide e
    clear hS hT hs ht l1 l2 e
    go_enter Try.func32, Try.ntmps32
    go_wp2_with fail
    go_ret
    exact ⟨by rw [E.out]; rfl, (Q.refl w).alloc _⟩
  have d2 : decide ((16 : Int) < (n2 : Int)) = false := by simp; omega
  have hnb : ¬ (512 < n0 ∨ 16 < ss.length ∨ 16 < ws.length) := by omega
  have HNB := hide hnb
  obtain ⟨w1, hw1⟩ : ∃ w1, w.alloc (.cells #[.slice A0 n0 c0, .slice A1 n1 c1, .slice A2 n2 c2] 34) = w1 := ⟨_, rfl⟩
  have hq1 : Q w w1 := by rw [← hw1]; exact (Q.refl w).alloc _
  have hs1 : w.heap.size < w1.heap.size := by rw [← hw1]; simp
  have kb0 : w1.cell? ⟨w.heap.size, 0, none⟩ = some (.slice A0 n0 c0) := by rw [← hw1]; simp
  have kb1 : w1.cell? ⟨w.heap.size, 1, none⟩ = some (.slice A1 n1 c1) := by rw [← hw1]; simp
  have kb2 : w1.cell? ⟨w.heap.size, 2, none⟩ = some (.slice A2 n2 c2) := by rw [← hw1]; simp
  have HW1 := hide hw1
  have KB0 := hide kb0
  have KB1 := hide kb1
  have KB2 := hide kb2
  have HS := hide hS
  have HT := hide hT
  have Hs := hide hs
  have Ht := hide ht
  have L1 := hide l1
  have L2 := hide l2
  have hn0i : (n0 : Int) ≤ 512 := by omega
  have hn1i : (n1 : Int) ≤ 16 := by omega
  have hn2i : (n2 : Int) ≤ 16 := by omega
  clear hS hT hs ht l1 l2 hw1 kb0 kb1 kb2 hnb
  go_enter Try.func32, Try.ntmps32
  go_wp2_with fail
  rw [HW1.out]
  clear d0 d1 d2
  go_loopw [3] (fun vi wr => ∃ k : Nat, k ≤ n1 ∧ vi = .int .i64 k ∧ (∀ j x, j < k → ss[j]? = some x → symOk n0 x = true) ∧ Q w1 wr) (fun vi _ => n1 - (intOf vi).toNat)
  case atStart => exact ⟨0, by omega, by go_num, fun j x hj => by omega, Q.refl _⟩
  case round =>
    obtain ⟨k, hk, rfl, hall, hq⟩ := hrel
    have HALL := hide hall
    have hsz := hq.size
    have k0 := (hq.facts.1 _ 0 hs1).trans KB0.out
    have k1 := (hq.facts.1 _ 1 hs1).trans KB1.out
    have hswr : w.heap.size < wr.heap.size := by omega
    clear hall
    by_cases hlt : k < n1
    · have hd1 : decide ((k : Int) < (n1 : Int)) = true := by simp; omega
      have hd0 : decide (k < n1) = true := by simp; omega
      have hlti : (k : Int) < (n1 : Int) := by omega
      obtain ⟨b1, o1, nm, at_, rfl, hb1, g1, x1, x2⟩ := (HS.out.up (hq1.trans hq)).sym k hlt
      have hnm := Hs.out _ (List.mem_of_getElem? g1)
      dsimp only at hnm
      have G1 := hide g1
      have HQ := hide hq
      have hbad : symOk n0 (nm, at_) = false → validF n0 ss ws = 1 := fun h => valid_arg HNB.out (sound_sym G1.out h)
      have HBAD := hide hbad
      clear g1 hq hbad
      cases hn : nameB nm
      · have E := hide (HBAD.out (by simp [symOk, hn]))
        have CN := hide (fun W => hn ▸ rIsName_any nm W hnm)
        clear hn
        go_wp2_with fail
        have hxc := ext_cell
        refine wp_region_ext (by kernel_rfl) (by kernel_rfl) ?_
        repeat (go_big_quiet_step (((go_at_call 72; exact ext_call' (CN.out _)))))
        clear hxc
        refine wpQuiet_nil ?_
        intro wz hwwz
        have hqwz := q_of_ext hwwz
        clear hwwz
        obtain ⟨hcwz, hfwz, hzwz⟩ := hqwz.facts
        try simp at hzwz
        try have hs0wz : w.heap.size < wz.heap.size := by omega
        try have hs1wz : w.heap.size + 1 < wz.heap.size := by omega
        have hqz := (hq1.trans HQ.out).trans hqwz
        clear hcwz hfwz x1 x2 k0 k1
        go_wp2_with fail
        go_ret
        exact ⟨by rw [E.out]; rfl, hqz⟩
      · have CN := hide (fun W => hn ▸ rIsName_any nm W hnm)
        cases hi : inB at_ 0 n0
        · have E := hide (HBAD.out (by unfold inB at hi; simp only [symOk, hn, Bool.true_and]; exact hi))
          have CW := hide (fun W => hi ▸ within_any at_ 0 n0 W)
          clear hn hi
          go_wp2_with fail
          have hxc := ext_cell
          refine wp_region_ext (by kernel_rfl) (by kernel_rfl) ?_
          repeat (go_big_quiet_step ((first | (go_at_call 72; exact ext_call' (CN.out _)) | (go_at_call 73; exact ext_call' (CW.out _)))))
          clear hxc
          refine wpQuiet_nil ?_
          intro wz hwwz
          have hqwz := q_of_ext hwwz
          clear hwwz
          obtain ⟨hcwz, hfwz, hzwz⟩ := hqwz.facts
          try simp at hzwz
          try have hs0wz : w.heap.size < wz.heap.size := by omega
          try have hs1wz : w.heap.size + 1 < wz.heap.size := by omega
          have hqz := (hq1.trans HQ.out).trans hqwz
          clear hcwz hfwz x1 x2 k0 k1
          go_wp2_with fail
          go_ret
          exact ⟨by rw [E.out]; rfl, hqz⟩
        · have HOK := hide (show symOk n0 (nm, at_) = true by unfold inB at hi; simp only [symOk, hn, Bool.true_and]; exact hi)
          have CW := hide (fun W => hi ▸ within_any at_ 0 n0 W)
          clear hn hi
          go_wp2_with fail
          have hxc := ext_cell
          refine wp_region_ext (by kernel_rfl) (by kernel_rfl) ?_
          repeat (go_big_quiet_step ((first | (go_at_call 72; exact ext_call' (CN.out _)) | (go_at_call 73; exact ext_call' (CW.out _)))))
          clear hxc
          refine wpQuiet_nil ?_
          intro wz hwwz
          have hqwz := q_of_ext hwwz
          clear hwwz
          obtain ⟨hcwz, hfwz, hzwz⟩ := hqwz.facts
          try simp at hzwz
          try have hs0wz : w.heap.size < wz.heap.size := by omega
          try have hs1wz : w.heap.size + 1 < wz.heap.size := by omega
          have hqz := HQ.out.trans hqwz
          clear hcwz hfwz x1 x2 k0 k1
          go_wp2_with fail
          go_roundw
          case rel => exact ⟨k + 1, by omega, by go_num, fun j x hj hx => by
            by_cases e : j = k
            · subst e
              rw [G1.out] at hx
              cases hx
              exact HOK.out
            · exact HALL.out j x (by omega) hx, hqz⟩
          case measure => simp [intOf] <;> omega
    · have hd1 : decide ((k : Int) < (n1 : Int)) = false := by simp; omega
      have hd0 : decide (k < n1) = false := by simp; omega
      have HSY := hide (sound_syms (ws := ws) (n := n0) (fun j x hj hx => HALL.out j x (by have := L1.out; omega) hx))
      obtain ⟨w2, rfl⟩ : ∃ w2 : World, w2 = wr := ⟨_, rfl⟩
      have hq02 := hq1.trans hq
      have HQ2 := hide hq
      have hs2 : w.heap.size < w2.heap.size := by omega
      clear hq hlt hk HALL
      go_wp2_with fail
      clear hd1 hd0 k0 k1
      go_loopw [4] (fun vi wr => ∃ k : Nat, k ≤ n2 ∧ vi = .int .i64 k ∧ (∀ j x, j < k → ws[j]? = some x → wntOk n0 x = true) ∧ wantsOk n0 [] ws = wantsOk n0 (ws.take k) (ws.drop k) ∧ Q w2 wr) (fun vi _ => n2 - (intOf vi).toNat)
      case atStart => exact ⟨0, by omega, by go_num, fun j x hj => by omega, rfl, Q.refl _⟩
      case round =>
        obtain ⟨k, hk, rfl, hall, hw, hq⟩ := hrel
        obtain ⟨wo, rfl⟩ : ∃ wo : World, wo = wr := ⟨_, rfl⟩
        have HALL := hide hall
        have HW := hide hw
        have hsz := hq.size
        have k0 := ((HQ2.out.trans hq).facts.1 _ 0 hs1).trans KB0.out
        have k2 := ((HQ2.out.trans hq).facts.1 _ 2 hs1).trans KB2.out
        have hswr : w.heap.size < wo.heap.size := by omega
        clear hall hw
        by_cases hlt : k < n2
        · have hd1 : decide ((k : Int) < (n2 : Int)) = true := by simp; omega
          have hd0 : decide (k < n2) = true := by simp; omega
          have hlti : (k : Int) < (n2 : Int) := by omega
          obtain ⟨b1, o1, at_, kd, nm, rfl, hb1, g1, x1, x2, x3⟩ := (HT.out.up (hq02.trans hq)).wnt k hlt
          have hnm := Ht.out _ (List.mem_of_getElem? g1)
          dsimp only at hnm
          have HST := hide (wants_step (n := n0) g1)
          have G1 := hide g1
          have HQ := hide hq
          have hbad : wntOk n0 (at_, kd, nm) = false → validF n0 ss ws = 1 := fun h => valid_arg HNB.out (by rw [HSY.out, HW.out, HST.out, h]; rfl)
          have HBAD := hide hbad
          have hqf := (hq02.trans hq).alloc (.cells #[.int .i64 at_, .int .i64 kd, .string nm] 97)
          have hw0 : wntOk n0 (at_, kd, nm) = (nameB nm && inB at_ 0 ((n0 : Int) - 4) && inB kd 0 1) := by simp [wntOk, inB, Bool.and_assoc]
          rw [hw0] at hbad
          have HBAD := hide hbad
          have HW0 := hide hw0
          have ea : (n0 : Int) - 4 ≤ 508 := by omega
          clear g1 hq hbad hw0
          cases hn : nameB nm
          · have E := hide (HBAD.out (by rw [hn]; rfl))
            have CN := hide (fun W => hn ▸ rIsName_any nm W hnm)
            clear hn
            go_wp2_with fail
            refine (CN.out _).mono ?_
            rintro e w5 ⟨rfl, rfl⟩
            go_wp2_with fail
            go_ret
            exact ⟨by rw [E.out]; rfl, hqf⟩
          · have CN := hide (fun W => hn ▸ rIsName_any nm W hnm)
            cases hi : inB at_ 0 ((n0 : Int) - 4)
            · have E := hide (HBAD.out (by rw [hn, hi]; rfl))
              have CW := hide (fun W => hi ▸ within_any at_ 0 ((n0 : Int) - 4) W)
              clear hn hi
              go_wp2_with fail
              refine (CN.out _).mono ?_
              rintro e w5 ⟨rfl, rfl⟩
              go_wp2_with fail
              refine (CW.out _).mono ?_
              rintro e w5 ⟨rfl, rfl⟩
              go_wp2_with fail
              go_ret
              exact ⟨by rw [E.out]; rfl, hqf⟩
            · have CW := hide (fun W => hi ▸ within_any at_ 0 ((n0 : Int) - 4) W)
              cases hj : inB kd 0 1
              · have E := hide (HBAD.out (by rw [hn, hi, hj]; rfl))
                have CV := hide (fun W => hj ▸ within_any kd 0 1 W)
                clear hn hi hj
                go_wp2_with fail
                refine (CN.out _).mono ?_
                rintro e w5 ⟨rfl, rfl⟩
                go_wp2_with fail
                refine (CW.out _).mono ?_
                rintro e w5 ⟨rfl, rfl⟩
                go_wp2_with fail
                refine (CV.out _).mono ?_
                rintro e w5 ⟨rfl, rfl⟩
                go_wp2_with fail
                go_ret
                exact ⟨by rw [E.out]; rfl, hqf⟩
              · have CV := hide (fun W => hj ▸ within_any kd 0 1 W)
                have hok : wntOk n0 (at_, kd, nm) = true := by rw [HW0.out, hn, hi, hj]; rfl
                have HOK := hide hok
                have hat : 0 ≤ at_ ∧ at_ ≤ 508 := by unfold inB at hi; simp at hi; omega
                obtain ⟨hat0, hat1⟩ := hat
                clear hn hi hj hok
                go_wp2_with fail
                refine (CN.out _).mono ?_
                rintro e w5 ⟨rfl, rfl⟩
                go_wp2_with fail
                refine (CW.out _).mono ?_
                rintro e w5 ⟨rfl, rfl⟩
                go_wp2_with fail
                refine (CV.out _).mono ?_
                rintro e w5 ⟨rfl, rfl⟩
                go_wp2_with fail
                obtain ⟨w3, hw3⟩ : ∃ w3, wo.alloc (.cells #[.int .i64 at_, .int .i64 kd, .string nm] 97) = w3 := ⟨_, rfl⟩
                have hq3 : Q wo w3 := by rw [← hw3]; exact (Q.refl wo).alloc _
                have hs3 : wo.heap.size < w3.heap.size := by rw [← hw3]; simp
                have z0 : w3.cell? ⟨wo.heap.size, 0, none⟩ = some (.int .i64 at_) := by rw [← hw3]; simp
                have Z0 := hide z0
                have K2 := hide ((hq3.facts.1 _ 2 hswr).trans k2)
                have hq03 : Q w w3 := (hq02.trans HQ.out).trans hq3
                rw [hw3]
                clear hw3 x1 x2 x3 k0 k2 z0 hqf
                go_loopw [6] (fun vi wr => ∃ m : Nat, m ≤ k ∧ vi = .int .i64 m ∧ (∀ j x, j < m → ws[j]? = some x → near x (at_, kd, nm) = false) ∧ Q w3 wr) (fun vi _ => k - (intOf vi).toNat)
                case atStart => exact ⟨0, by omega, by go_num, fun j x hj => by omega, Q.refl _⟩
                case round =>
                  obtain ⟨m, hm, rfl, hnr, hq⟩ := hrel
                  have HNR := hide hnr
                  have hsz3 := hq.size
                  have z0 := (hq.facts.1 _ 0 hs3).trans Z0.out
                  have k2 := (hq.facts.1 _ 2 (by omega)).trans K2.out
                  have hw3r : w.heap.size < wr.heap.size := by omega
                  have hwor : wo.heap.size < wr.heap.size := by omega
                  clear hnr
                  by_cases hmk : m < k
                  · have hm1 : decide ((m : Int) < (k : Int)) = true := by simp; omega
                    have hm0 : decide (m < k) = true := by simp; omega
                    have hmn : (m : Int) < (n2 : Int) := by omega
                    obtain ⟨b2, o2, at2, kd2, nm2, e2, hb2, g2, y1, y2, y3⟩ := (HT.out.up (hq03.trans hq)).wnt m (by omega)
                    cases e2
                    have hw2 := HALL.out m _ hmk g2
                    have ha2 : 0 ≤ at2 ∧ at2 ≤ 508 := by simp [wntOk] at hw2; omega
                    obtain ⟨ha20, ha21⟩ := ha2
                    have G2 := hide g2
                    have HQm := hide hq
                    clear g2 hw2 hq
                    cases hnr : near (at2, kd2, nm2) (at_, kd, nm)
                    · have CI := hide (fun W => ((near_in (at2, kd2, nm2) (at_, kd, nm)).trans hnr) ▸ within_any (at_ - at2) (-3) 3 W)
                      have HN := hide hnr
                      clear hnr
                      go_wp2_with fail
                      have hxc := ext_cell
                      refine wp_region_ext (by kernel_rfl) (by kernel_rfl) ?_
                      repeat (go_big_quiet_step (((go_at_call 73; exact ext_call' (CI.out _)))))
                      clear hxc
                      refine wpQuiet_nil ?_
                      intro wz hwwz
                      have hqwz := q_of_ext hwwz
                      clear hwwz
                      obtain ⟨hcwz, hfwz, hzwz⟩ := hqwz.facts
                      try simp at hzwz
                      try have hs0wz : w.heap.size < wz.heap.size := by omega
                      try have hs1wz : w.heap.size + 1 < wz.heap.size := by omega
                      have hqz := HQm.out.trans hqwz
                      clear hcwz hfwz y1 y2 y3 z0 k2
                      go_wp2_with fail
                      go_roundw
                      case rel => exact ⟨m + 1, by omega, by go_num, fun j x hj hx => by
                        by_cases e : j = m
                        · subst e
                          rw [G2.out] at hx
                          cases hx
                          exact HN.out
                        · exact HNR.out j x (by omega) hx, hqz⟩
                      case measure => simp [intOf] <;> omega
                    · have CI := hide (fun W => ((near_in (at2, kd2, nm2) (at_, kd, nm)).trans hnr) ▸ within_any (at_ - at2) (-3) 3 W)
                      have E := hide (valid_arg HNB.out (show soundB n0 ss ws = false by rw [HSY.out, HW.out, HST.out, HOK.out, any_take_true (p := fun y => near y (at_, kd, nm)) hmk G2.out hnr]; rfl))
                      clear hnr
                      go_wp2_with fail
                      have hxc := ext_cell
                      refine wp_region_ext (by kernel_rfl) (by kernel_rfl) ?_
                      repeat (go_big_quiet_step (((go_at_call 73; exact ext_call' (CI.out _)))))
                      clear hxc
                      refine wpQuiet_nil ?_
                      intro wz hwwz
                      have hqwz := q_of_ext hwwz
                      clear hwwz
                      obtain ⟨hcwz, hfwz, hzwz⟩ := hqwz.facts
                      try simp at hzwz
                      try have hs0wz : w.heap.size < wz.heap.size := by omega
                      try have hs1wz : w.heap.size + 1 < wz.heap.size := by omega
                      have hqz := (hq03.trans HQm.out).trans hqwz
                      clear hcwz hfwz y1 y2 y3 z0 k2
                      go_wp2_with fail
                      go_ret
                      exact ⟨by rw [E.out]; rfl, hqz⟩
                  · have hm1 : decide ((m : Int) < (k : Int)) = false := by simp; omega
                    have hm0 : decide (m < k) = false := by simp; omega
                    obtain rfl : m = k := by omega
                    have HNX := hide (show wantsOk n0 [] ws = wantsOk n0 (ws.take (m + 1)) (ws.drop (m + 1)) by rw [HW.out, HST.out, HOK.out, any_take_false (p := fun y => near y (at_, kd, nm)) HNR.out]; rfl)
                    have hqn := (HQ.out.trans hq3).trans hq
                    clear z0 k2 hq
                    go_wp2_with fail
                    go_roundw
                    case rel => exact ⟨m + 1, by omega, by go_num, fun j x hj hx => by
                      by_cases e : j = m
                      · subst e
                        rw [G1.out] at hx
                        cases hx
                        exact HOK.out
                      · exact HALL.out j x (by omega) hx, HNX.out, hqn⟩
                    case measure => simp [intOf] <;> omega
        · have hd1 : decide ((k : Int) < (n2 : Int)) = false := by simp; omega
          have hd0 : decide (k < n2) = false := by simp; omega
          obtain rfl : k = n2 := by omega
          have HSOK := hide (show soundB n0 ss ws = true by rw [HSY.out, HW.out, List.drop_eq_nil_of_le (by have := L2.out; omega)]; rfl)
          have hq0w := hq02.trans hq
          have HQ3 := hide (HQ2.out.trans hq)
          clear hq
          go_wp2_with fail
          clear hd1 hd0 k0 k2
          go_loopw [7] (fun vi wr => ∃ i : Nat, i ≤ n1 ∧ vi = .int .i64 i ∧ dupB [] (ss.map (·.1)) = dupB ((ss.take i).map (·.1)) ((ss.drop i).map (·.1)) ∧ Q wo wr) (fun vi _ => n1 - (intOf vi).toNat)
          case atStart => exact ⟨0, by omega, by go_num, rfl, Q.refl _⟩
          case round =>
            obtain ⟨i, hi, rfl, hd, hq⟩ := hrel
            obtain ⟨wp, rfl⟩ : ∃ wp : World, wp = wr := ⟨_, rfl⟩
            have HD := hide hd
            have hsz4 := hq.size
            have k1 := ((HQ3.out.trans hq).facts.1 _ 1 hs1).trans KB1.out
            have hswp : w.heap.size < wp.heap.size := by omega
            clear hd
            by_cases hin : i < n1
            · have hd1 : decide ((i : Int) < (n1 : Int)) = true := by simp; omega
              have hd0 : decide (i < n1) = true := by simp; omega
              have hini : (i : Int) < (n1 : Int) := by omega
              have HQ4 := hide hq
              clear hq
              go_wp2_with fail
              clear hd1 hd0 k1
              go_loopw [8] (fun vi wr => ∃ j : Nat, j ≤ i ∧ vi = .int .i64 j ∧ (∀ p x y, p < j → ss[p]? = some x → ss[i]? = some y → (x.1.toList == y.1.toList) = false) ∧ Q wp wr) (fun vi _ => i - (intOf vi).toNat)
              case atStart => exact ⟨0, by omega, by go_num, fun p x y hp => by omega, Q.refl _⟩
              case round =>
                obtain ⟨j, hj, rfl, hne, hq⟩ := hrel
                have HNE := hide hne
                have hsz5 := hq.size
                have k1 := (((HQ3.out.trans HQ4.out).trans hq).facts.1 _ 1 hs1).trans KB1.out
                have hswr' : w.heap.size < wr.heap.size := by omega
                clear hne
                obtain ⟨b1, o1, nm, at_, rfl, hb1, g1, x1, x2⟩ := (HS.out.up ((hq0w.trans HQ4.out).trans hq)).sym i hin
                by_cases hji : j < i
                · have hj1 : decide ((j : Int) < (i : Int)) = true := by simp; omega
                  have hj0 : decide (j < i) = true := by simp; omega
                  have hjn : (j : Int) < (n1 : Int) := by omega
                  obtain ⟨b2, o2, nm2, at2, e2, hb2, g2, y1, y2⟩ := (HS.out.up ((hq0w.trans HQ4.out).trans hq)).sym j (by omega)
                  cases e2
                  have G1 := hide g1
                  have G2 := hide g2
                  have HQ5 := hide hq
                  clear g1 g2 hq
                  cases hen : nm2.toList == nm.toList
                  · have hen2 : (nm.toList == nm2.toList) = false := by rw [← hen]; exact Bool.beq_comm
                    have HEN := hide hen
                    clear hen
                    go_wp2_with fail
                    have hxc := ext_cell
                    refine wp_region_ext (by kernel_rfl) (by kernel_rfl) ?_
                    repeat (go_big_quiet_step ((fail)))
                    clear hxc
                    refine wpQuiet_nil ?_
                    intro wz hwwz
                    have hqwz := q_of_ext hwwz
                    clear hwwz
                    obtain ⟨hcwz, hfwz, hzwz⟩ := hqwz.facts
                    try simp at hzwz
                    try have hs0wz : w.heap.size < wz.heap.size := by omega
                    try have hs1wz : w.heap.size + 1 < wz.heap.size := by omega
                    have hqz := HQ5.out.trans hqwz
                    clear hcwz hfwz x1 x2 y1 y2 k1
                    go_wp2_with fail
                    go_roundw
                    case rel => exact ⟨j + 1, by omega, by go_num, fun p x y hp hx hy => by
                      by_cases e : p = j
                      · subst e
                        rw [G2.out] at hx
                        rw [G1.out] at hy
                        cases hx
                        cases hy
                        exact HEN.out
                      · exact HNE.out p x y (by omega) hx hy, hqz⟩
                    case measure => simp [intOf] <;> omega
                  · have hen2 : (nm.toList == nm2.toList) = true := by rw [← hen]; exact Bool.beq_comm
                    have E := hide (valid_dup HNB.out HSOK.out (show dupB [] (ss.map (·.1)) = true by rw [HD.out, dup_step G1.out, any_take_true (p := fun y => y.1.toList == nm.toList) hji G2.out hen]; rfl))
                    clear hen
                    go_wp2_with fail
                    have hxc := ext_cell
                    refine wp_region_ext (by kernel_rfl) (by kernel_rfl) ?_
                    repeat (go_big_quiet_step ((fail)))
                    clear hxc
                    refine wpQuiet_nil ?_
                    intro wz hwwz
                    have hqwz := q_of_ext hwwz
                    clear hwwz
                    obtain ⟨hcwz, hfwz, hzwz⟩ := hqwz.facts
                    try simp at hzwz
                    try have hs0wz : w.heap.size < wz.heap.size := by omega
                    try have hs1wz : w.heap.size + 1 < wz.heap.size := by omega
                    have hqz := ((hq0w.trans HQ4.out).trans HQ5.out).trans hqwz
                    clear hcwz hfwz x1 x2 y1 y2 k1
                    go_wp2_with fail
                    go_ret
                    exact ⟨by rw [E.out]; rfl, hqz⟩
                · have hj1 : decide ((j : Int) < (i : Int)) = false := by simp; omega
                  have hj0 : decide (j < i) = false := by simp; omega
                  obtain rfl : j = i := by omega
                  have HNX := hide (show dupB [] (ss.map (·.1)) = dupB ((ss.take (j + 1)).map (·.1)) ((ss.drop (j + 1)).map (·.1)) by rw [HD.out, dup_step g1, any_take_false (p := fun y => y.1.toList == nm.toList) (fun p x hp hx => HNE.out p x _ hp hx g1)]; rfl)
                  have hqn := HQ4.out.trans hq
                  clear x1 x2 k1 hq g1
                  go_wp2_with fail
                  go_roundw
                  case rel => exact ⟨j + 1, by omega, by go_num, HNX.out, hqn⟩
                  case measure => simp [intOf] <;> omega
            · have hd1 : decide ((i : Int) < (n1 : Int)) = false := by simp; omega
              have hd0 : decide (i < n1) = false := by simp; omega
              have E := hide (valid_ok HNB.out HSOK.out (show dupB [] (ss.map (·.1)) = false by rw [HD.out, List.drop_eq_nil_of_le (by have := L1.out; omega)]; rfl))
              have hqn := hq0w.trans hq
              clear hq
              go_wp2_with fail
              go_ret
              exact ⟨by rw [E.out]; rfl, hqn⟩
end Go.Proofs.Ytiilkiggfjpibaa
