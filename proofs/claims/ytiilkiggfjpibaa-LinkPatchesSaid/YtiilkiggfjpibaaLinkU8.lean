/- Reading the bytes of an object, in plain Lean: what both readers come to. The program's reader: take, one, two, name; slices.Clone of bytes. The program's reader: one, two, name. The walk of the program's Decode. What is written is read again, in plain Lean. Conditions: as each theorem says. -/
import Derived.Test.YtiilkiggfjpibaaLinkU7
import Derived.WalkLawsBesides
import Derived.WalkSpells
import Derived.Test.YtiilkiggfjpibaaLinkU6
import Derived.Test.YtiilkiggfjpibaaBase
namespace Go.Proofs.Ytiilkiggfjpibaa
open Go.RowKit LK
set_option linter.unusedVariables false
set_option linter.unusedSimpArgs false
abbrev Bs := List Int
abbrev Rs := Bs × Bool
/-! the program's reader: once there are too few bytes there are none -/
def takeS (n : Nat) (σ : Rs) : Bs × Rs := if n ≤ σ.1.length then (σ.1.take n, (σ.1.drop n, σ.2)) else (List.replicate n 0, ([], true))
def oneS (σ : Rs) : Int × Rs := ((takeS 1 σ).1.headD 0, (takeS 1 σ).2)
def num2 (l : Bs) : Int := l.headD 0 + l.tail.headD 0 * 256
def twoS (σ : Rs) : Int × Rs := (num2 (takeS 2 σ).1, (takeS 2 σ).2)
def nameS (σ : Rs) : Bs × Rs := takeS (oneS σ).1.toNat (oneS σ).2
def symS (σ : Rs) : Sym × Rs := ((strI (nameS σ).1, (twoS (nameS σ).2).1), (twoS (nameS σ).2).2)
def wntS (σ : Rs) : Wnt × Rs := (((twoS (nameS (oneS σ).2).2).1, (oneS σ).1, strI (nameS (oneS σ).2).1), (twoS (nameS (oneS σ).2).2).2)
def manyS {α : Type} (f : Rs → α × Rs) : Nat → Rs → List α × Rs
  | 0, σ => ([], σ)
  | k + 1, σ => ((f σ).1 :: (manyS f k (f σ).2).1, (manyS f k (f σ).2).2)
theorem manyS_snoc {α : Type} (f : Rs → α × Rs) : ∀ (k : Nat) (σ : Rs), manyS f (k + 1) σ = ((manyS f k σ).1 ++ [(f (manyS f k σ).2).1], (f (manyS f k σ).2).2)
  | 0, σ => rfl
  | k + 1, σ => by
    rw [manyS, manyS_snoc f k (f σ).2]
    rfl
def bytesS (σ : Rs) : Bs × Rs := takeS (twoS σ).1.toNat (twoS σ).2
def decS (b : Bs) : (Bs × List Sym × List Wnt) × Rs :=
  let p := bytesS (b, false)
  let n := oneS p.2
  let q := manyS symS n.1.toNat n.2
  let m := oneS q.2
  let r := manyS wntS m.1.toNat m.2
  ((p.1, q.1, r.1), r.2)
/-! what is read, where there are enough bytes -/
def takeO (n : Nat) (l : Bs) : Option (Bs × Bs) := if n ≤ l.length then some (l.take n, l.drop n) else none
def oneO (l : Bs) : Option (Int × Bs) := (takeO 1 l).map fun p => (p.1.headD 0, p.2)
def twoO (l : Bs) : Option (Int × Bs) := (takeO 2 l).map fun p => (num2 p.1, p.2)
def nameO (l : Bs) : Option (Bs × Bs) := (oneO l).bind fun p => takeO p.1.toNat p.2
def symO (l : Bs) : Option (Sym × Bs) := (nameO l).bind fun p => (twoO p.2).map fun q => ((strI p.1, q.1), q.2)
def wntO (l : Bs) : Option (Wnt × Bs) := (oneO l).bind fun k => (nameO k.2).bind fun p => (twoO p.2).map fun q => ((q.1, k.1, strI p.1), q.2)
def manyO {α : Type} (f : Bs → Option (α × Bs)) : Nat → Bs → Option (List α × Bs)
  | 0, l => some ([], l)
  | k + 1, l => (f l).bind fun p => (manyO f k p.2).map fun q => (p.1 :: q.1, q.2)
def bytesO (l : Bs) : Option (Bs × Bs) := (twoO l).bind fun p => takeO p.1.toNat p.2
def decO (l : Bs) : Option ((Bs × List Sym × List Wnt) × Bs) :=
  (bytesO l).bind fun p => (oneO p.2).bind fun n => (manyO symO n.1.toNat n.2).bind fun q => (oneO q.2).bind fun m => (manyO wntO m.1.toNat m.2).map fun r => ((p.1, q.1, r.1), r.2)
/-- a reader of states does what a reader of bytes does, and stays short -/
def Like {α : Type} (f : Rs → α × Rs) (g : Bs → Option (α × Bs)) : Prop := (∀ l, match g l with | some p => f (l, false) = (p.1, (p.2, false)) | none => (f (l, false)).2.2 = true) ∧ ∀ l, (f (l, true)).2.2 = true
theorem Like.take (n : Nat) : Like (takeS n) (takeO n) := by
  refine ⟨fun l => ?_, fun l => ?_⟩
  · unfold takeO takeS
    by_cases h : n ≤ l.length
    · simp [h]
    · simp [h]
  · unfold takeS
    split <;> rfl
theorem Like.map {α β : Type} {f : Rs → α × Rs} {g : Bs → Option (α × Bs)} (h : Like f g) (k : α → β) : Like (fun σ => (k (f σ).1, (f σ).2)) (fun l => (g l).map fun p => (k p.1, p.2)) := by
  refine ⟨fun l => ?_, h.2⟩
  have := h.1 l
  dsimp only
  cases hg : g l with
  | none => rw [hg] at this; simpa using this
  | some p => rw [hg] at this; simp only [Option.map_some]; rw [this]
theorem Like.bind {α β : Type} {f : Rs → α × Rs} {g : Bs → Option (α × Bs)} {f2 : α → Rs → β × Rs} {g2 : α → Bs → Option (β × Bs)} (h : Like f g) (h2 : ∀ a, Like (f2 a) (g2 a)) :
    Like (fun σ => f2 (f σ).1 (f σ).2) (fun l => (g l).bind fun p => g2 p.1 p.2) := by
  refine ⟨fun l => ?_, fun l => ?_⟩
  · have := h.1 l
    dsimp only
    cases hg : g l with
    | none =>
      rw [hg] at this
      simp only [Option.bind_none] at this ⊢
      rcases hf : f (l, false) with ⟨x, y, z⟩
      rw [hf] at this
      dsimp only at this ⊢
      subst this
      exact (h2 x).2 y
    | some p =>
      rw [hg] at this
      simp only [Option.bind_some]
      rw [this]
      exact (h2 p.1).1 p.2
  · have := h.2 l
    dsimp only
    rcases hf : f (l, true) with ⟨x, y, z⟩
    rw [hf] at this
    dsimp only at this ⊢
    subst this
    exact (h2 x).2 y
theorem Like.one : Like oneS oneO := (Like.take 1).map fun l => l.headD 0
theorem Like.two : Like twoS twoO := (Like.take 2).map num2
theorem Like.name : Like nameS nameO := Like.one.bind fun a => Like.take a.toNat
theorem Like.sym : Like symS symO := Like.name.bind (β := Sym) (f2 := fun a σ => ((strI a, (twoS σ).1), (twoS σ).2)) (g2 := fun a l => (twoO l).map fun (q : Int × Bs) => ((strI a, q.1), q.2)) fun a => Like.two.map fun q => (strI a, q)
theorem Like.wnt : Like wntS wntO :=
  Like.one.bind (β := Wnt) (f2 := fun k σ => (((twoS (nameS σ).2).1, k, strI (nameS σ).1), (twoS (nameS σ).2).2)) (g2 := fun k l => (nameO l).bind fun (p : Bs × Bs) => (twoO p.2).map fun (q : Int × Bs) => ((q.1, k, strI p.1), q.2)) fun k =>
    Like.name.bind (β := Wnt) (f2 := fun a σ => (((twoS σ).1, k, strI a), (twoS σ).2)) (g2 := fun a l => (twoO l).map fun (q : Int × Bs) => ((q.1, k, strI a), q.2)) fun a => Like.two.map fun q => (q, k, strI a)
theorem Like.many {α : Type} {f : Rs → α × Rs} {g : Bs → Option (α × Bs)} (h : Like f g) : ∀ k, Like (manyS f k) (manyO g k)
  | 0 => ⟨fun l => rfl, fun l => rfl⟩
  | k + 1 => h.bind (β := List α) (f2 := fun a σ => (a :: (manyS f k σ).1, (manyS f k σ).2)) (g2 := fun a l => (manyO g k l).map fun (q : List α × Bs) => (a :: q.1, q.2)) fun a => (Like.many h k).map fun q => a :: q
theorem Like.bytes : Like bytesS bytesO := Like.two.bind fun a => Like.take a.toNat
theorem dec_like (b : Bs) : match decO b with | some p => decS b = (p.1, (p.2, false)) | none => (decS b).2.2 = true := by
  have h : Like (fun σ => (((bytesS σ).1, (manyS symS (oneS (bytesS σ).2).1.toNat (oneS (bytesS σ).2).2).1, (manyS wntS (oneS (manyS symS (oneS (bytesS σ).2).1.toNat (oneS (bytesS σ).2).2).2).1.toNat (oneS (manyS symS (oneS (bytesS σ).2).1.toNat (oneS (bytesS σ).2).2).2).2).1),
      (manyS wntS (oneS (manyS symS (oneS (bytesS σ).2).1.toNat (oneS (bytesS σ).2).2).2).1.toNat (oneS (manyS symS (oneS (bytesS σ).2).1.toNat (oneS (bytesS σ).2).2).2).2).2)) decO :=
    Like.bytes.bind (β := Bs × List Sym × List Wnt) (f2 := fun p σ => ((p, (manyS symS (oneS σ).1.toNat (oneS σ).2).1, (manyS wntS (oneS (manyS symS (oneS σ).1.toNat (oneS σ).2).2).1.toNat (oneS (manyS symS (oneS σ).1.toNat (oneS σ).2).2).2).1), (manyS wntS (oneS (manyS symS (oneS σ).1.toNat (oneS σ).2).2).1.toNat (oneS (manyS symS (oneS σ).1.toNat (oneS σ).2).2).2).2))
      (g2 := fun p l => (oneO l).bind fun (n : Int × Bs) => (manyO symO n.1.toNat n.2).bind fun (q : List Sym × Bs) => (oneO q.2).bind fun (m : Int × Bs) => (manyO wntO m.1.toNat m.2).map fun (r : List Wnt × Bs) => ((p, q.1, r.1), r.2)) fun p =>
    Like.one.bind (β := Bs × List Sym × List Wnt) (f2 := fun n σ => ((p, (manyS symS n.toNat σ).1, (manyS wntS (oneS (manyS symS n.toNat σ).2).1.toNat (oneS (manyS symS n.toNat σ).2).2).1), (manyS wntS (oneS (manyS symS n.toNat σ).2).1.toNat (oneS (manyS symS n.toNat σ).2).2).2))
      (g2 := fun n l => (manyO symO n.toNat l).bind fun (q : List Sym × Bs) => (oneO q.2).bind fun (m : Int × Bs) => (manyO wntO m.1.toNat m.2).map fun (r : List Wnt × Bs) => ((p, q.1, r.1), r.2)) fun n =>
    (Like.sym.many n.toNat).bind (β := Bs × List Sym × List Wnt) (f2 := fun q σ => ((p, q, (manyS wntS (oneS σ).1.toNat (oneS σ).2).1), (manyS wntS (oneS σ).1.toNat (oneS σ).2).2))
      (g2 := fun q l => (oneO l).bind fun (m : Int × Bs) => (manyO wntO m.1.toNat m.2).map fun (r : List Wnt × Bs) => ((p, q, r.1), r.2)) fun q =>
    Like.one.bind (β := Bs × List Sym × List Wnt) (f2 := fun m σ => ((p, q, (manyS wntS m.toNat σ).1), (manyS wntS m.toNat σ).2)) (g2 := fun m l => (manyO wntO m.toNat l).map fun (r : List Wnt × Bs) => ((p, q, r.1), r.2)) fun m =>
    (Like.wnt.many m.toNat).map fun r => (p, q, r)
  have h1 := h.1 b
  cases hd : decO b with
  | none => rw [hd] at h1; exact h1
  | some p => rw [hd] at h1; exact h1
/-! what was read is what is written -/
def Undo {α : Type} (g : Bs → Option (α × Bs)) (e : α → Bs) : Prop := ∀ l, In8 l → ∀ p, g l = some p → l = e p.1 ++ p.2 ∧ In8 p.2
theorem In8.drop {l : Bs} (h : In8 l) (n : Nat) : In8 (l.drop n) := fun x hx => h x (List.mem_of_mem_drop hx)
theorem In8.take {l : Bs} (h : In8 l) (n : Nat) : In8 (l.take n) := fun x hx => h x (List.mem_of_mem_take hx)
theorem take_some {n : Nat} {l : Bs} {p : Bs × Bs} (h : takeO n l = some p) : l = p.1 ++ p.2 ∧ p.1.length = n := by
  unfold takeO at h
  split at h
  · cases h
    exact ⟨(List.take_append_drop n l).symm, by rw [List.length_take]; omega⟩
  · cases h
theorem one_undo : Undo oneO oneL := fun l hl p h => by
  obtain ⟨q, hq, rfl⟩ := Option.map_eq_some_iff.1 h
  obtain ⟨e, hn⟩ := take_some hq
  obtain ⟨x, hx⟩ : ∃ x, q.1 = [x] := by
    match q.1, hn with
    | [x], _ => exact ⟨x, rfl⟩
  rw [hx] at e
  have h0 := hl x (by rw [e]; simp)
  refine ⟨?_, fun y hy => hl y (by rw [e]; simp [hy])⟩
  dsimp only
  rw [hx, e]
  simp only [oneL, List.headD_cons]
  rw [show x % 256 = x by omega]
theorem two_undo : Undo twoO twoL := fun l hl p h => by
  obtain ⟨q, hq, rfl⟩ := Option.map_eq_some_iff.1 h
  obtain ⟨e, hn⟩ := take_some hq
  obtain ⟨x, y, hx⟩ : ∃ x y, q.1 = [x, y] := by
    match q.1, hn with
    | [x, y], _ => exact ⟨x, y, rfl⟩
  rw [hx] at e
  have h0 := hl x (by rw [e]; simp)
  have h1 := hl y (by rw [e]; simp)
  refine ⟨?_, fun z hz => hl z (by rw [e]; simp [hz])⟩
  dsimp only
  rw [hx, e]
  simp only [twoL, num2, List.headD_cons, List.tail_cons]
  rw [show (x + y * 256) % 256 = x by omega, show (x + y * 256) / 256 % 256 = y by omega]
theorem strI_size (l : Bs) : (strI l).size = l.length := by unfold strI strN; simp [ByteArray.size]
theorem nat8_strI {l : Bs} (h : In8 l) : nat8 (strI l) = l := by
  unfold nat8 nat strI strN
  simp only [List.map_map]
  conv => rhs; rw [← List.map_id l]
  apply List.map_congr_left
  intro x hx
  have := h x hx
  simp
  omega
theorem name_undo {l : Bs} (hl : In8 l) {p : Bs × Bs} (h : nameO l = some p) : l = namedL (strI p.1) ++ p.2 ∧ In8 p.2 := by
  obtain ⟨q, hq, h2⟩ := Option.bind_eq_some_iff.1 h
  obtain ⟨e1, i1⟩ := one_undo l hl q hq
  obtain ⟨e2, hn⟩ := take_some h2
  have h0 : 0 ≤ q.1 ∧ q.1 < 256 := by
    obtain ⟨q', hq', rfl⟩ := Option.map_eq_some_iff.1 hq
    obtain ⟨e, hn'⟩ := take_some hq'
    obtain ⟨x, hx⟩ : ∃ x, q'.1 = [x] := by
      match q'.1, hn' with
      | [x], _ => exact ⟨x, rfl⟩
    rw [hx]
    exact hl x (by rw [e, hx]; simp)
  have hi : In8 p.1 := fun x hx => i1 x (by rw [e2]; simp [hx])
  refine ⟨?_, fun x hx => i1 x (by rw [e2]; simp [hx])⟩
  unfold namedL
  rw [nat8_strI hi, strI_size, hn, List.append_assoc, ← e2, e1]
  congr 2
  omega
theorem sym_undo : Undo symO symL := fun l hl p h => by
  obtain ⟨q, hq, h2⟩ := Option.bind_eq_some_iff.1 h
  obtain ⟨r, hr, rfl⟩ := Option.map_eq_some_iff.1 h2
  obtain ⟨e1, i1⟩ := name_undo hl hq
  obtain ⟨e2, i2⟩ := two_undo _ i1 r hr
  refine ⟨?_, i2⟩
  unfold symL
  rw [List.append_assoc, ← e2]
  exact e1
theorem wnt_undo : Undo wntO wntL := fun l hl p h => by
  obtain ⟨k, hk, h1⟩ := Option.bind_eq_some_iff.1 h
  obtain ⟨q, hq, h2⟩ := Option.bind_eq_some_iff.1 h1
  obtain ⟨r, hr, rfl⟩ := Option.map_eq_some_iff.1 h2
  obtain ⟨e0, i0⟩ := one_undo l hl k hk
  obtain ⟨e1, i1⟩ := name_undo i0 hq
  obtain ⟨e2, i2⟩ := two_undo _ i1 r hr
  refine ⟨?_, i2⟩
  unfold wntL
  rw [List.append_assoc, List.append_assoc, ← e2, ← e1]
  exact e0
theorem many_undo {α : Type} {g : Bs → Option (α × Bs)} {e : α → Bs} (h : Undo g e) : ∀ (k : Nat) (l : Bs), In8 l → ∀ p, manyO g k l = some p → l = p.1.flatMap e ++ p.2 ∧ In8 p.2 ∧ p.1.length = k
  | 0, l, hl, p, hp => by cases hp; exact ⟨rfl, hl, rfl⟩
  | k + 1, l, hl, p, hp => by
    obtain ⟨q, hq, h2⟩ := Option.bind_eq_some_iff.1 hp
    obtain ⟨r, hr, rfl⟩ := Option.map_eq_some_iff.1 h2
    obtain ⟨e1, i1⟩ := h l hl q hq
    obtain ⟨e2, i2, hl2⟩ := many_undo h k q.2 i1 r hr
    refine ⟨?_, i2, by rw [List.length_cons, hl2]⟩
    rw [List.flatMap_cons, List.append_assoc, ← e2]
    exact e1
theorem one_range {l : Bs} (hl : In8 l) {q : Int × Bs} (h : oneO l = some q) : 0 ≤ q.1 ∧ q.1 < 256 := by
  obtain ⟨q', hq', rfl⟩ := Option.map_eq_some_iff.1 h
  obtain ⟨e, hn'⟩ := take_some hq'
  obtain ⟨x, hx⟩ : ∃ x, q'.1 = [x] := by
    match q'.1, hn' with
    | [x], _ => exact ⟨x, rfl⟩
  rw [hx]
  exact hl x (by rw [e, hx]; simp)
theorem two_range {l : Bs} (hl : In8 l) {q : Int × Bs} (h : twoO l = some q) : 0 ≤ q.1 ∧ q.1 < 65536 := by
  obtain ⟨q', hq', rfl⟩ := Option.map_eq_some_iff.1 h
  obtain ⟨e, hn'⟩ := take_some hq'
  obtain ⟨x, y, hx⟩ : ∃ x y, q'.1 = [x, y] := by
    match q'.1, hn' with
    | [x, y], _ => exact ⟨x, y, rfl⟩
  have h0 := hl x (by rw [e, hx]; simp)
  have h1 := hl y (by rw [e, hx]; simp)
  rw [hx]
  simp only [num2, List.headD_cons, List.tail_cons]
  omega
/-- what was read, written again, with what is left -/
theorem dec_undo {b : Bs} (hb : In8 b) {p : (Bs × List Sym × List Wnt) × Bs} (h : decO b = some p) : b = encL p.1.1 p.1.2.1 p.1.2.2 ++ p.2 ∧ In8 p.1.1 := by
  obtain ⟨q, hq, h1⟩ := Option.bind_eq_some_iff.1 h
  obtain ⟨n, hn, h2⟩ := Option.bind_eq_some_iff.1 h1
  obtain ⟨s, hs, h3⟩ := Option.bind_eq_some_iff.1 h2
  obtain ⟨m, hm, h4⟩ := Option.bind_eq_some_iff.1 h3
  obtain ⟨r, hr, rfl⟩ := Option.map_eq_some_iff.1 h4
  obtain ⟨z, hz, h5⟩ := Option.bind_eq_some_iff.1 hq
  obtain ⟨e0, i0⟩ := two_undo b hb z hz
  obtain ⟨e1, l1⟩ := take_some h5
  have r0 := two_range hb hz
  have iq : In8 q.1 := fun x hx => i0 x (by rw [e1]; simp [hx])
  have i1 : In8 q.2 := fun x hx => i0 x (by rw [e1]; simp [hx])
  obtain ⟨e2, i2⟩ := one_undo _ i1 n hn
  have r1 := one_range i1 hn
  obtain ⟨e3, i3, l3⟩ := many_undo sym_undo _ _ i2 s hs
  obtain ⟨e4, i4⟩ := one_undo _ i3 m hm
  have r2 := one_range i3 hm
  obtain ⟨e5, i5, l5⟩ := many_undo wnt_undo _ _ i4 r hr
  refine ⟨?_, iq⟩
  unfold encL
  dsimp only
  rw [l1, l3, l5, show ((z.1.toNat : Nat) : Int) = z.1 by omega, show ((n.1.toNat : Nat) : Int) = n.1 by omega, show ((m.1.toNat : Nat) : Int) = m.1 by omega]
  simp only [List.append_assoc]
  rw [← e5, ← e4, ← e3, ← e2, ← e1]
  exact e0
end Go.Proofs.Ytiilkiggfjpibaa

namespace Go.Proofs.Ytiilkiggfjpibaa
open Go.RowKit LK
set_option linter.unusedVariables false
set_option linter.unusedSimpArgs false
theorem wpList_appnew {P : Program} {t e size bytes : Nat} {w : World} {base : Nat} {ops : Array Oper} {rest : List Oper} {o : Oper} {a : Act} {Q' : Exit → Act → World → Prop} (hgd : o.guard = none) (E : El P t e size bytes) (s x : Operand)
    (ho : o.op = .call { callee := .builtin .append, args := #[s, x], argTypes := #[t, t] }) {b0 A : Option Addr} {m c B : Nat} {news : List Value} (hs : a.eval s = .slice b0 0 0) (hx : a.eval x = .slice A m c) (hown : w.ownsRow base e size (.slice b0 0 0) 0 []) (hA : A = none → m = 0 ∧ c = 0) (hl : news.length = m * size) (hr : Rd w B A news) (h1 : ∀ u ∈ news, u.oneCell' = true)
    (hb : m * bytes ≤ 140737488355328) (hbase : base ≤ w.heap.size) (h : ∀ v w', w'.ownsRow base e size v m news → Q w w' → wpList P ops Q' rest (a.put o.dst v) w') : wpList P ops Q' (o :: rest) a w := by
  obtain ⟨v, w', hr2, h2, h3⟩ := run_append_new (P := P) E hown hA hl hr h1 hb hbase o.type
  exact Lib.wpList_append_run w hgd s x t t ho _ _ hs hx v w' hr2 (h v w' h2 h3)
set_option maxRecDepth 100000 in
set_option maxHeartbeats 4000000 in
theorem CloneB_any (l : SlV Int) (w : World) (hb : B8 w l) (hn : l.n ≤ 1000000) : Calls Try.prog 51 #[l.val] w fun e w' => ∃ v, e = .returned v ∧ isOwn w.heap.size l.xs v w' ∧ Q w w' := by
  obtain ⟨A, n, c, xs⟩ := l
  have hl := hb.sl.len
  dsimp only at hl hn
  unfold SlV.val
  dsimp only
  rcases A with _ | ad
  · obtain ⟨h1, h2⟩ := hb.nil_ rfl
    dsimp only at h1 h2
    subst h1
    subst h2
    have : xs = [] := List.eq_nil_of_length_eq_zero hl
    subst this
    have kn := fun (W : World) (a : Option Addr) (n c n' c' : Nat) => Lib.run_eql_slice_nil (P := Try.prog) W 30 _ a n c n' c' Try.underlying30
    go_enter Try.func51, Try.ntmps51
    go_wp2_with fail
    go_ret
    exact ⟨_, rfl, World.ownsRow_nil _ _ _ _, Q.refl _⟩
  · have HB := hide hb
    have HL := hide hl
    have ho := own_lit0 w w.heap.size 5 1 w.heap.size rfl (Nat.le_refl _)
    have HO := hide ho
    clear hb hl ho
    have kn := fun (W : World) (a : Option Addr) (n c n' c' : Nat) => Lib.run_eql_slice_nil (P := Try.prog) W 30 _ a n c n' c' Try.underlying30
    go_enter Try.func51, Try.ntmps51
    go_wp2_with (at_builtin; go_loud (refine wpList_appnew rfl El_u8 _ _ rfl rfl rfl HO.out (fun h => (by cases h)) ?_ (HB.out.sl.rd.up ((Q.refl w).alloc _)) (one_cell one_b8 _) ?_ ?_ ?_; (focus (rw [flatMap_length (k := 1) (fun _ => rfl), HL.out])); (focus omega); (focus (simp)); intro v5 w5 hv5 hq5; have HV5 := hide hv5; have HQ5 := hide (show Q w w5 from ((Q.refl w).alloc _).trans hq5); clear hv5 hq5))
    go_ret
    refine ⟨_, rfl, ?_, HQ5.out⟩
    have h := HV5.out
    rw [flat8] at h
    unfold isOwn
    rw [HL.out]
    exact h
theorem blk_set {w : World} {g j : Nat} {cs : Array Value} {ty : TypeId} (h : w.heap[g]? = some (.cells cs ty (0, 0))) (u : Value) : (w.setCell ⟨g, j, none⟩ u).heap[g]? = some (.cells (cs.setIfInBounds j u) ty (0, 0)) := by
  rw [setCell_eq_setRow w g j cs ty (0, 0) u h]
  exact setRow_heap w g cs _ ty (0, 0) h
theorem grown_q {w w' : World} (h : Q w w') (row : Option Nat) : w.grownBy w' row := ⟨h.below.os, h.below.tape, h.below.output, h.size, fun k hk _ => h.below.block k hk⟩
theorem B8.drop {w : World} {A : Option Addr} {m c n : Nat} {xs : List Int} (h : B8 w ⟨A, m, c, xs⟩) (hn : n ≤ m) : B8 w ⟨A.map (fun x => x.add n), m - n, c - n, xs.drop n⟩ := by
  have hl := h.sl.len
  have hc := h.sl.cap
  have hm := h.sl.most
  have hr := h.sl.rd
  rw [flat8] at hr
  dsimp only at hl hc hm hr
  refine ⟨⟨?_, by rw [List.length_drop]; dsimp only; omega, (by dsimp only; omega), (by dsimp only; omega)⟩, fun hA => ?_⟩
  · rw [flat8, List.map_drop]
    dsimp only
    rcases hr with h0 | ⟨b, o, h1, h2, h3⟩
    · exact .inl (by rw [h0]; simp)
    · subst h1
      have := Rd.dropAt (B := w.heap.size) (.inr ⟨b, o, rfl, h2, h3⟩) n
      rw [Option.map_some, addr_add]
      exact this
  · dsimp only at hA
    have : A = none := by cases A <;> simp_all
    have := h.nil_ this
    dsimp only at this ⊢
    omega
theorem own_reader {B rb : Nat} {xs : List Int} {v : Value} {w w' : World} {cs : Array Value} (h : isOwn B xs v w) (hb : w.heap[rb]? = some (.cells cs 100 (0, 0))) (hg : w.grownBy w' (some rb)) : isOwn B xs v w' := by
  refine World.ownsRow.kept h hg ?_
  cases hv : v.ownBlock with
  | none => exact .inl rfl
  | some g =>
    refine .inr fun e2 => ?_
    cases e2
    obtain ⟨cs, h1⟩ := own_blk h hv
    rw [hb] at h1
    cases h1
/-- the reader at rb is in state σ; what is left lies in memory that was there in W0 -/
structure RdS (W0 w : World) (rb : Nat) (σ : Rs) : Prop where
  q : Q W0 w
  lt : W0.heap.size ≤ rb
  st : ∃ l : SlV Int, w.heap[rb]? = some (.cells #[l.val, .bool σ.2] 100 (0, 0)) ∧ B8 W0 l ∧ l.xs = σ.1
  i8 : In8 σ.1
set_option maxRecDepth 100000 in
set_option maxHeartbeats 4000000 in
theorem take_any (W0 w : World) (rb n : Nat) (σ : Rs) (hR : RdS W0 w rb σ) (hn : n ≤ 70000) :
    Calls Try.prog 57 #[.pointer (some ⟨rb, 0, none⟩), .int .i64 (n : Nat)] w fun e w' => ∃ v, e = .returned v ∧ isOwn w.heap.size (takeS n σ).1 v w' ∧ RdS W0 w' rb (takeS n σ).2 ∧ w.grownBy w' (some rb) := by
  obtain ⟨hq, hlt, ⟨⟨A, m, c, xs⟩, hblk, hb8, hxs⟩, hi8⟩ := hR
  dsimp only at hxs
  unfold SlV.val at hblk
  dsimp only at hblk
  have hm := hb8.sl.len
  have hcap := hb8.sl.cap
  have hmost := hb8.sl.most
  dsimp only at hm hcap hmost
  have hni : (n : Int) ≤ 70000 := by omega
  have r0 : w.cell? ⟨rb, 0, none⟩ = some (.slice A m c) := cell_blkJ (j := 0) hblk rfl
  have r1 : w.cell? ⟨rb, 1, none⟩ = some (.bool σ.2) := cell_blkJ (j := 1) hblk rfl
  have f0 : w.frozen? ⟨rb, 0, none⟩ = false := free_blk hblk 0
  have f1 : w.frozen? ⟨rb, 1, none⟩ = false := free_blk hblk 1
  have hrb : rb < w.heap.size := (Array.getElem?_eq_some_iff.1 hblk).1
  by_cases hlen : m < n
  · have hd : decide ((m : Int) < (n : Int)) = true := by simp; omega
    have hd2 : decide (m < n) = true := by simp; omega
    have hts : takeS n σ = (List.replicate n 0, ([], true)) := by unfold takeS; rw [if_neg (by rw [← hxs, hm]; omega)]
    rw [hts]
    go_enter Try.func57, Try.ntmps57
    go_wp2_with (at_make; refine wpList_mk rfl _ _ rfl Try.underlying30 (show (Try.prog.info? 5).map (fun i => (i.zero, i.size, i.bytes)) = some (some (.int .u8 0), 1, 1) by kernel_rfl) rfl w.heap.size (n := n) rfl rfl rfl rfl ?_ ?_ ?_ ?_; (focus omega); (focus omega); (focus (simp)); intro w3 hown3 hq3 hlt3; have HOW3 := hide hown3; have HQ3 := hide hq3; clear hown3 hq3)
    go_ret
    obtain ⟨w2, hw2⟩ : ∃ w2, (w.setCell ⟨rb, 1, none⟩ (.bool true)).setCell ⟨rb, 0, none⟩ (.slice none 0 0) = w2 := ⟨_, rfl⟩
    have hb2 : w2.heap[rb]? = some (.cells #[.slice none 0 0, .bool true] 100 (0, 0)) := by
      rw [← hw2]
      exact blk_set (blk_set hblk (j := 1) _) (j := 0) _
    have hg2 : w.grownBy w2 (some rb) := by rw [← hw2]; exact grown_cell.trans grown_cell
    have h3 : Q w2 w3 := by rw [← hw2]; exact HQ3.out
    have hq02 : Q W0 w2 := by rw [← hw2]; exact (hq.set (by dsimp only; omega) _).set (by dsimp only; omega) _
    refine ⟨_, rfl, ?_, ⟨hq02.trans h3, hlt, ⟨⟨none, 0, 0, []⟩, (h3.below.block rb (Array.getElem?_eq_some_iff.1 hb2).1).trans hb2, ⟨Sl.nil _, fun _ => ⟨rfl, rfl⟩⟩, rfl⟩, fun x hx => by cases hx⟩, hg2.trans (grown_q h3 _)⟩
    unfold isOwn
    rw [List.length_replicate, List.map_replicate]
    simpa using HOW3.out
  · have hd : decide ((m : Int) < (n : Int)) = false := by simp; omega
    have hd2 : decide (m < n) = false := by simp; omega
    have hts : takeS n σ = (σ.1.take n, (σ.1.drop n, σ.2)) := by unfold takeS; rw [if_pos (by rw [← hxs, hm]; omega)]
    rw [hts]
    have hnc : (n : Int) ≤ (c : Int) := by omega
    have hnm : (n : Int) ≤ (m : Int) := by omega
    have hbw := hb8.up hq
    have htk : B8 w ⟨A, n, c, xs.take n⟩ := by
      refine ⟨⟨?_, by rw [List.length_take]; dsimp only; omega, (by dsimp only; omega), hmost⟩, fun hA => ?_⟩
      · have := hbw.sl.rd.take n
        rw [flat8, ← List.map_take] at this
        rw [flat8]
        exact this
      · have := hbw.nil_ hA
        dsimp only at this
        exact ⟨(by dsimp only; omega), this.2⟩
    have HCL := hide (CloneB_any ⟨A, n, c, xs.take n⟩ w htk (by dsimp only; omega))
    unfold SlV.val at HCL
    dsimp only at HCL
    have HBLK := hide hblk
    have HB8 := hide hb8
    clear hbw htk hblk hb8
    go_enter Try.func57, Try.ntmps57
    go_wp2_with fail
    refine HCL.out.mono ?_
    rintro e w3 ⟨v3, rfl, hv3, hq3⟩
    have hb3 := (hq3.below.block rb hrb).trans HBLK.out
    have r0 : w3.cell? ⟨rb, 0, none⟩ = some (.slice A m c) := cell_blkJ (j := 0) hb3 rfl
    have f0 : w3.frozen? ⟨rb, 0, none⟩ = false := free_blk hb3 0
    have hrb3 : rb < w3.heap.size := by have := hq3.size; omega
    have HB3 := hide hb3
    have HV3 := hide hv3
    have HQ3 := hide hq3
    clear hb3 hv3 hq3 r1 f1
    go_wp2_with fail
    · have hmn : m = n := by omega
      obtain ⟨w4, hw4⟩ : ∃ w4, w3.setCell ⟨rb, 0, none⟩ (.slice A (m - n) 0) = w4 := ⟨_, rfl⟩
      have hb4 : w4.heap[rb]? = some (.cells #[.slice A (m - n) 0, .bool σ.2] 100 (0, 0)) := by
        rw [← hw4]
        exact blk_set HB3.out (j := 0) _
      have hg4 : w3.grownBy w4 (some rb) := by rw [← hw4]; exact grown_cell
      rw [hw4]
      go_ret
      refine ⟨_, rfl, ?_, ⟨?_, hlt, ⟨⟨A, m - n, 0, []⟩, hb4, ⟨⟨.inl rfl, (by dsimp only; simp; omega), (by dsimp only; omega), Nat.zero_le _⟩, fun _ => (by dsimp only; omega)⟩, ?_⟩, hi8.drop n⟩, (grown_q HQ3.out _).trans hg4⟩
      · rw [← hxs]
        exact own_reader HV3.out HB3.out hg4
      · rw [← hw4]; exact (hq.trans HQ3.out).set (by dsimp only; omega) _
      · dsimp only
        rw [← hxs]
        exact (List.drop_eq_nil_of_le (by omega)).symm
    · obtain ⟨w4, hw4⟩ : ∃ w4, w3.setCell ⟨rb, 0, none⟩ (.slice (A.map fun x => x.add n) (m - n) (c - n)) = w4 := ⟨_, rfl⟩
      have hb4 : w4.heap[rb]? = some (.cells #[.slice (A.map fun x => x.add n) (m - n) (c - n), .bool σ.2] 100 (0, 0)) := by
        rw [← hw4]
        exact blk_set HB3.out (j := 0) _
      have hg4 : w3.grownBy w4 (some rb) := by rw [← hw4]; exact grown_cell
      rw [hw4]
      go_ret
      refine ⟨_, rfl, ?_, ⟨?_, hlt, ⟨⟨A.map fun x => x.add n, m - n, c - n, xs.drop n⟩, hb4, B8.drop HB8.out (by omega), by dsimp only; rw [hxs]⟩, hi8.drop n⟩, (grown_q HQ3.out _).trans hg4⟩
      · rw [← hxs]
        exact own_reader HV3.out HB3.out hg4
      · rw [← hw4]; exact (hq.trans HQ3.out).set (by dsimp only; omega) _
end Go.Proofs.Ytiilkiggfjpibaa

namespace Go.Proofs.Ytiilkiggfjpibaa
open Go.RowKit LK
set_option linter.unusedVariables false
set_option linter.unusedSimpArgs false
theorem takeS_len (n : Nat) (σ : Rs) : (takeS n σ).1.length = n := by
  unfold takeS
  split
  · rw [List.length_take]; omega
  · simp
theorem takeS_in {n : Nat} {σ : Rs} (h : In8 σ.1) : In8 (takeS n σ).1 := by
  unfold takeS
  split
  · exact h.take n
  · intro x hx
    rw [(List.mem_replicate.1 hx).2]
    omega
theorem oneS_in {σ : Rs} (h : In8 σ.1) : 0 ≤ (oneS σ).1 ∧ (oneS σ).1 < 256 := by
  have hl := takeS_len 1 σ
  have hi := takeS_in (n := 1) h
  unfold oneS
  obtain ⟨x, hx⟩ : ∃ x, (takeS 1 σ).1 = [x] := by
    match (takeS 1 σ).1, hl with
    | [x], _ => exact ⟨x, rfl⟩
  rw [hx] at hi ⊢
  exact hi x (by simp)
theorem twoS_in {σ : Rs} (h : In8 σ.1) : 0 ≤ (twoS σ).1 ∧ (twoS σ).1 < 65536 := by
  have hl := takeS_len 2 σ
  have hi := takeS_in (n := 2) h
  unfold twoS num2
  obtain ⟨x, y, hx⟩ : ∃ x y, (takeS 2 σ).1 = [x, y] := by
    match (takeS 2 σ).1, hl with
    | [x, y], _ => exact ⟨x, y, rfl⟩
  rw [hx] at hi ⊢
  have h1 := hi x (by simp)
  have h2 := hi y (by simp)
  simp only [List.headD_cons, List.tail_cons]
  omega
theorem nameS_len {σ : Rs} (h : In8 σ.1) : (nameS σ).1.length ≤ 255 := by
  have := oneS_in h
  unfold nameS
  rw [takeS_len]
  omega
theorem RdS.up {W0 w w' : World} {rb : Nat} {σ : Rs} (h : RdS W0 w rb σ) (hq : Q w w') : RdS W0 w' rb σ := by
  obtain ⟨h1, h2, ⟨l, h3, h4, h5⟩, h6⟩ := h
  exact ⟨h1.trans hq, h2, ⟨l, (hq.below.block rb (Array.getElem?_eq_some_iff.1 h3).1).trans h3, h4, h5⟩, h6⟩
def RPost (W0 w : World) (rb : Nat) (v : Value) (σ : Rs) (e : Ending) (w' : World) : Prop := e = .returned v ∧ RdS W0 w' rb σ ∧ w.grownBy w' (some rb)
set_option maxRecDepth 100000 in
set_option maxHeartbeats 4000000 in
theorem rdOne (W0 w : World) (rb : Nat) (σ : Rs) (hR : RdS W0 w rb σ) : Calls Try.prog 59 #[.pointer (some ⟨rb, 0, none⟩)] w (RPost W0 w rb (.int .i64 (oneS σ).1) (oneS σ).2) := by
  have HT := hide (take_any W0 w rb 1 σ hR (by decide))
  have hl := takeS_len 1 σ
  have hi := takeS_in (n := 1) hR.i8
  obtain ⟨x, hx⟩ : ∃ x, (takeS 1 σ).1 = [x] := by
    match (takeS 1 σ).1, hl with
    | [x], _ => exact ⟨x, rfl⟩
  have HE := hide (show (oneS σ).1 = x by unfold oneS; rw [hx]; rfl)
  have HE2 := hide (show (oneS σ).2 = (takeS 1 σ).2 from rfl)
  rw [hx] at HT hi
  have hx0 := hi x (by simp)
  clear hR hl hx hi
  go_enter Try.func59, Try.ntmps59
  go_wp2_with fail
  refine HT.out.mono ?_
  rintro e w2 ⟨v, rfl, hv, hr, hg⟩
  obtain ⟨g, cc, rfl, hg1, hg2, hg3, hg4, hcell, -⟩ := own_at hv (by simp)
  have y0 : w2.cell? ⟨g, 0, none⟩ = some (.int .u8 x) := hcell 0 _ (by simp)
  have HR := hide hr
  have HG := hide hg
  clear hcell hv hr hg
  go_wp2_with fail
  go_ret
  exact ⟨by rw [HE.out]; rfl, by rw [HE2.out]; exact HR.out, HG.out⟩
set_option maxRecDepth 100000 in
set_option maxHeartbeats 4000000 in
theorem rdTwo (W0 w : World) (rb : Nat) (σ : Rs) (hR : RdS W0 w rb σ) : Calls Try.prog 58 #[.pointer (some ⟨rb, 0, none⟩)] w (RPost W0 w rb (.int .i64 (twoS σ).1) (twoS σ).2) := by
  have HT := hide (take_any W0 w rb 2 σ hR (by decide))
  have hl := takeS_len 2 σ
  have hi := takeS_in (n := 2) hR.i8
  obtain ⟨x, y, hx⟩ : ∃ x y, (takeS 2 σ).1 = [x, y] := by
    match (takeS 2 σ).1, hl with
    | [x, y], _ => exact ⟨x, y, rfl⟩
  have HE := hide (show (twoS σ).1 = x + y * 256 by unfold twoS; rw [hx]; rfl)
  have HE2 := hide (show (twoS σ).2 = (takeS 2 σ).2 from rfl)
  rw [hx] at HT hi
  have hx0 := hi x (by simp)
  have hy0 := hi y (by simp)
  clear hR hl hx hi
  go_enter Try.func58, Try.ntmps58
  go_wp2_with fail
  refine HT.out.mono ?_
  rintro e w2 ⟨v, rfl, hv, hr, hg⟩
  obtain ⟨g, cc, rfl, hg1, hg2, hg3, hg4, hcell, -⟩ := own_at hv (by simp)
  have y0 : w2.cell? ⟨g, 0, none⟩ = some (.int .u8 x) := hcell 0 _ (by simp)
  have y1 : w2.cell? ⟨g, 1, none⟩ = some (.int .u8 y) := hcell 1 _ (by simp)
  have HR := hide hr
  have HG := hide hg
  clear hcell hv hr hg
  go_wp2_with fail
  have hxc := ext_cell
  refine wp_region_ext (by kernel_rfl) (by kernel_rfl) ?_
  repeat (go_big_quiet_step ((fail)))
  clear hxc
  refine wpQuiet_nil ?_
  intro w3 hww3
  have hqw3 := q_of_ext hww3
  clear hww3
  obtain ⟨hcw3, hfw3, hzw3⟩ := hqw3.facts
  try simp at hzw3
  try have hs0w3 : w.heap.size < w3.heap.size := by omega
  try have hs1w3 : w.heap.size + 1 < w3.heap.size := by omega
  clear hcw3 hfw3 y0 y1
  go_wp2_with fail
  go_ret
  exact ⟨by rw [HE.out]; rfl, by rw [HE2.out]; exact HR.out.up hqw3, HG.out.trans (grown_q hqw3 _)⟩
set_option maxRecDepth 100000 in
set_option maxHeartbeats 4000000 in
theorem rdName (W0 w : World) (rb : Nat) (σ : Rs) (hR : RdS W0 w rb σ) : Calls Try.prog 60 #[.pointer (some ⟨rb, 0, none⟩)] w (RPost W0 w rb (.string (strI (nameS σ).1)) (nameS σ).2) := by
  have HO := hide (rdOne W0 w rb σ hR)
  have h1 := oneS_in hR.i8
  obtain ⟨k, hk⟩ : ∃ k : Nat, (oneS σ).1 = k := ⟨(oneS σ).1.toNat, by omega⟩
  have HN1 := hide (show (nameS σ).1 = (takeS k (oneS σ).2).1 by unfold nameS; rw [hk]; rfl)
  have HN2 := hide (show (nameS σ).2 = (takeS k (oneS σ).2).2 by unfold nameS; rw [hk]; rfl)
  rw [hk] at HO
  have hkb : k < 256 := by omega
  clear hR hk h1
  go_enter Try.func60, Try.ntmps60
  go_wp2_with fail
  refine HO.out.mono ?_
  rintro e w2 ⟨rfl, hr, hg⟩
  have HT := hide (take_any W0 w2 rb k _ hr (by omega))
  have hin := takeS_in (n := k) hr.i8
  have hl := takeS_len k (oneS σ).2
  have HG := hide hg
  clear hr hg
  go_wp2_with fail
  refine HT.out.mono ?_
  rintro e w3 ⟨v, rfl, hv, hr, hg⟩
  obtain ⟨l, rfl, hx, hn, hb⟩ := B8.own hv
  have hcv := conv_sl Try.underlying30 Try.underlying5 Try.underlying9 hb.sl (by rw [hx]; exact hin)
  obtain ⟨lA, ln, lc, lx⟩ := l
  dsimp only at hcv hx
  unfold SlV.val
  dsimp only
  have HR := hide hr
  have HX := hide hx
  have HG2 := hide (HG.out.trans hg)
  clear hv hr hg hb hn hin hl hx
  go_wp2_with fail
  go_ret
  exact ⟨by rw [HN1.out, HX.out]; rfl, by rw [HN2.out]; exact HR.out, HG2.out⟩
end Go.Proofs.Ytiilkiggfjpibaa

namespace Go.Proofs.Ytiilkiggfjpibaa
open Go.RowKit LK
set_option linter.unusedVariables false
set_option linter.unusedSimpArgs false
theorem step_app1g {P : Program} {t e size bytes : Nat} {w : World} {base : Nat} {ops : Array Oper} {o : Oper} {a : Act} {K : Act → World → Prop} {Q' : Exit → Act → World → Prop} {E0 : Prop} {v : Value} {n : Nat} {xs : List Value}
    (hgd : o.guard = none) (E : El P t e size bytes) (s x : Operand) (ho : o.op = .call { callee := .builtin .append, args := #[s, x], argTypes := #[t, t] })
    (hs : a.eval s = v) (hown : w.ownsRow base e size v n xs) {C : Array Value} {k : Nat} (hk : k = w.heap.size) (hx : a.eval x = .slice (some ⟨k, 0, none⟩) 1 1) (hC : C.size = size) (h1 : ∀ u ∈ C.toList, u.oneCell' = true)
    (hb : (n + 1) * bytes ≤ 140737488355328) (hbase : base ≤ w.heap.size)
    (h : ∀ v' w', w'.ownsRow base e size v' (n + 1) (xs ++ C.toList) → w.grownBy w' v.ownBlock → K (a.put o.dst v') w') :
    if Region.wanted o (yielded ops a.tmps) = true then Oper.wp P o a (w.alloc (.cells C e)) K Q' else E0 := by
  have hw : Region.wanted o (yielded ops a.tmps) = true := by simp [Region.wanted, hgd]
  rw [if_pos hw]
  obtain ⟨i, z, hi, hz, hsz, hby, hzs⟩ := E.inf
  subst hk
  have hle : n + 1 ≤ (n + 1) * bytes := Nat.le_mul_of_pos_right _ E.bpos
  refine wp_append_own _ s x t ho base e i z size bytes E.und hi hz hsz hby hzs E.pos v n xs hs (hown.alloc _) ⟨w.heap.size, 0, none⟩ 1 1 C.toList hx (by simpa using hC) (fun j u hu => ?_) h1 (by simp only [maxLen]; omega) hb (by simp; omega) (fun v' w' h2 h3 _ => h v' w' h2 ((World.grownBy_alloc w _ _).trans h3))
  rw [addr_add, Nat.zero_add, World.cell?_alloc_new]
  simpa using hu
theorem blk_other {w w' : World} {k : Nat} {cs : Array Value} {ty : TypeId} {B e s n : Nat} {v : Value} {xs : List Value} (hb : w.heap[k]? = some (.cells cs ty (0, 0))) (h : w.ownsRow B e s v n xs) (hg : w.grownBy w' v.ownBlock) (he : ty ≠ e) : w'.heap[k]? = some (.cells cs ty (0, 0)) := by
  refine (hg.block k (Array.getElem?_eq_some_iff.1 hb).1 (fun e2 => ?_)).trans hb
  obtain ⟨c2, h2⟩ := own_blk h e2.symm
  rw [hb] at h2
  injection h2 with h2
  injection h2 with _ h2
  exact he h2
theorem own_set_other {w : World} {g j : Nat} {cs : Array Value} {ty : TypeId} {u : Value} {B e s n : Nat} {v : Value} {xs : List Value} (h : w.ownsRow B e s v n xs) (hb : w.heap[g]? = some (.cells cs ty (0, 0))) (he : e ≠ ty) : (w.setCell ⟨g, j, none⟩ u).ownsRow B e s v n xs := by
  refine World.ownsRow.kept h grown_cell ?_
  cases hv : v.ownBlock with
  | none => exact .inl rfl
  | some g' =>
    refine .inr fun e2 => ?_
    cases e2
    obtain ⟨c2, h2⟩ := own_blk h hv
    rw [hb] at h2
    injection h2 with h2
    injection h2 with _ h2
    exact he h2.symm
theorem blk_set_ne {w : World} {g k j : Nat} {o : Obj} {u : Value} (h : w.heap[k]? = some o) (hk : k ≠ g) : (w.setCell ⟨g, j, none⟩ u).heap[k]? = some o := (heap_setCell_other w ⟨g, j, none⟩ k u (fun e => hk e)).trans h
/-- what is decoded so far -/
structure DecI (w wr : World) (vb vs vw : Value) (bs : Bs) (ss : List Sym) (ws : List Wnt) (σ : Rs) : Prop where
  rd : RdS w wr (w.heap.size + 1) σ
  d0 : wr.heap[w.heap.size]? = some (.cells #[.slice none 0 0, .slice none 0 0, .slice none 0 0] 34 (0, 0))
  ob : wr.heap[w.heap.size + 2]? = some (.cells #[vb, vs, vw] 34 (0, 0))
  b : wr.ownsRow w.heap.size 5 1 vb bs.length (bs.map (Value.int .u8))
  s : wr.ownsRow w.heap.size 94 2 vs ss.length (ss.flatMap encSym)
  t : wr.ownsRow w.heap.size 97 3 vw ws.length (ws.flatMap encWnt)
  bi : In8 bs
  sn : ∀ x ∈ ss, x.1.size ≤ 255
  tn : ∀ x ∈ ws, x.2.2.size ≤ 255
section
variable {w wr w' : World} {vb vs vw : Value} {bs : Bs} {ss : List Sym} {ws : List Wnt} {σ σ' : Rs}
theorem DecI.up (h : DecI w wr vb vs vw bs ss ws σ) (hq : Q wr w') : DecI w w' vb vs vw bs ss ws σ :=
  ⟨h.rd.up hq, (hq.below.block _ (Array.getElem?_eq_some_iff.1 h.d0).1).trans h.d0, (hq.below.block _ (Array.getElem?_eq_some_iff.1 h.ob).1).trans h.ob, own_q h.b hq, own_q h.s hq, own_q h.t hq, h.bi, h.sn, h.tn⟩
theorem own_rb {B e s n rb : Nat} {v : Value} {xs : List Value} {cs : Array Value} (h : w.ownsRow B e s v n xs) (hb : w.heap[rb]? = some (.cells cs 100 (0, 0))) (he : e ≠ 100) (hg : w.grownBy w' (some rb)) : w'.ownsRow B e s v n xs := by
  refine World.ownsRow.kept h hg ?_
  cases hv : v.ownBlock with
  | none => exact .inl rfl
  | some g =>
    refine .inr fun e2 => ?_
    cases e2
    obtain ⟨cs, h1⟩ := own_blk h hv
    rw [hb] at h1
    injection h1 with h1
    injection h1 with _ h1
    exact he h1.symm
theorem DecI.reader (h : DecI w wr vb vs vw bs ss ws σ) (hr : RdS w w' (w.heap.size + 1) σ') (hg : wr.grownBy w' (some (w.heap.size + 1))) : DecI w w' vb vs vw bs ss ws σ' := by
  obtain ⟨l, hb, _⟩ := h.rd.st
  exact ⟨hr, (hg.block _ (Array.getElem?_eq_some_iff.1 h.d0).1 (by simp)).trans h.d0, (hg.block _ (Array.getElem?_eq_some_iff.1 h.ob).1 (by simp)).trans h.ob, own_rb h.b hb (by decide) hg, own_rb h.s hb (by decide) hg, own_rb h.t hb (by decide) hg, h.bi, h.sn, h.tn⟩
theorem RdS.set {rb g j : Nat} {u : Value} {W0 : World} (h : RdS W0 w rb σ) (hg : W0.heap.size ≤ g) (hne : rb ≠ g) : RdS W0 (w.setCell ⟨g, j, none⟩ u) rb σ := by
  obtain ⟨h1, h2, ⟨l, h3, h4, h5⟩, h6⟩ := h
  exact ⟨h1.set hg _, h2, ⟨l, blk_set_ne h3 hne, h4, h5⟩, h6⟩
theorem RdS.grown {rb : Nat} {W0 : World} {B e s n : Nat} {v : Value} {xs : List Value} (h : RdS W0 w rb σ) (ho : w.ownsRow B e s v n xs) (hB : W0.heap.size ≤ B) (he : e ≠ 100) (hg : w.grownBy w' v.ownBlock) : RdS W0 w' rb σ := by
  obtain ⟨h1, h2, ⟨l, h3, h4, h5⟩, h6⟩ := h
  exact ⟨q_grown h1 hg (fun k hk => by have := (ho.lt k hk).1; omega), h2, ⟨l, blk_other h3 ho hg he.symm, h4, h5⟩, h6⟩
theorem DecI.bytes (h : DecI w wr vb vs vw bs ss ws σ) {v : Value} {ys : Bs} (hv : wr.ownsRow w.heap.size 5 1 v ys.length (ys.map (Value.int .u8))) (hi : In8 ys) : DecI w (wr.setCell ⟨w.heap.size + 2, 0, none⟩ v) v vs vw ys ss ws σ :=
  ⟨h.rd.set (by omega) (by omega), blk_set_ne h.d0 (by omega), blk_set h.ob (j := 0) _, own_set_other hv h.ob (by decide), own_set_other h.s h.ob (by decide), own_set_other h.t h.ob (by decide), hi, h.sn, h.tn⟩
theorem DecI.sym (h : DecI w wr vb vs vw bs ss ws σ) {v : Value} {x : Sym} (hv : w'.ownsRow w.heap.size 94 2 v (ss.length + 1) (ss.flatMap encSym ++ encSym x)) (hg : wr.grownBy w' vs.ownBlock) (hx : x.1.size ≤ 255) : DecI w (w'.setCell ⟨w.heap.size + 2, 1, none⟩ v) vb v vw bs (ss ++ [x]) ws σ := by
  have ho := blk_other h.ob h.s hg (by decide)
  have hd := blk_other h.d0 h.s hg (by decide)
  refine ⟨(h.rd.grown h.s (Nat.le_refl _) (by decide) hg).set (by omega) (by omega), blk_set_ne hd (by omega), blk_set ho (j := 1) _, own_set_other (own_other h.b h.s hg (by decide)) ho (by decide), ?_, own_set_other (own_other h.t h.s hg (by decide)) ho (by decide), h.bi, fun y hy => (List.mem_append.1 hy).elim (h.sn y) (fun e => by rw [List.mem_singleton.1 e]; exact hx), h.tn⟩
  rw [List.length_append, List.flatMap_append]
  simpa using own_set_other hv ho (by decide)
theorem DecI.wnt (h : DecI w wr vb vs vw bs ss ws σ) {v : Value} {x : Wnt} (hv : w'.ownsRow w.heap.size 97 3 v (ws.length + 1) (ws.flatMap encWnt ++ encWnt x)) (hg : wr.grownBy w' vw.ownBlock) (hx : x.2.2.size ≤ 255) : DecI w (w'.setCell ⟨w.heap.size + 2, 2, none⟩ v) vb vs v bs ss (ws ++ [x]) σ := by
  have ho := blk_other h.ob h.t hg (by decide)
  have hd := blk_other h.d0 h.t hg (by decide)
  refine ⟨(h.rd.grown h.t (Nat.le_refl _) (by decide) hg).set (by omega) (by omega), blk_set_ne hd (by omega), blk_set ho (j := 2) _, own_set_other (own_other h.b h.t hg (by decide)) ho (by decide), own_set_other (own_other h.s h.t hg (by decide)) ho (by decide), ?_, h.bi, h.sn, fun y hy => (List.mem_append.1 hy).elim (h.tn y) (fun e => by rw [List.mem_singleton.1 e]; exact hx)⟩
  rw [List.length_append, List.flatMap_append]
  simpa using own_set_other hv ho (by decide)
theorem DecI.done (h : DecI w wr vb vs vw bs ss ws σ) (u0 u1 u2 : Value) :
    Q w (((wr.setCell ⟨w.heap.size, 0, none⟩ u0).setCell ⟨w.heap.size, 1, none⟩ u1).setCell ⟨w.heap.size, 2, none⟩ u2) ∧
    (((wr.setCell ⟨w.heap.size, 0, none⟩ u0).setCell ⟨w.heap.size, 1, none⟩ u1).setCell ⟨w.heap.size, 2, none⟩ u2).ownsRow w.heap.size 5 1 vb bs.length (bs.map (Value.int .u8)) ∧
    (((wr.setCell ⟨w.heap.size, 0, none⟩ u0).setCell ⟨w.heap.size, 1, none⟩ u1).setCell ⟨w.heap.size, 2, none⟩ u2).ownsRow w.heap.size 94 2 vs ss.length (ss.flatMap encSym) ∧
    (((wr.setCell ⟨w.heap.size, 0, none⟩ u0).setCell ⟨w.heap.size, 1, none⟩ u1).setCell ⟨w.heap.size, 2, none⟩ u2).ownsRow w.heap.size 97 3 vw ws.length (ws.flatMap encWnt) := by
  have b1 := blk_set h.d0 (j := 0) u0
  have b2 := blk_set b1 (j := 1) u1
  have a1 : ∀ {e s n : Nat} {v : Value} {xs : List Value}, e ≠ 34 → wr.ownsRow w.heap.size e s v n xs → (((wr.setCell ⟨w.heap.size, 0, none⟩ u0).setCell ⟨w.heap.size, 1, none⟩ u1).setCell ⟨w.heap.size, 2, none⟩ u2).ownsRow w.heap.size e s v n xs := fun he ho =>
    own_set_other (own_set_other (own_set_other ho h.d0 he) b1 he) b2 he
  exact ⟨((h.rd.q.set (Nat.le_refl _) _).set (Nat.le_refl _) _).set (Nat.le_refl _) _, a1 (by decide) h.b, a1 (by decide) h.s, a1 (by decide) h.t⟩
end
theorem manyS_len {α : Type} (f : Rs → α × Rs) : ∀ (k : Nat) (σ : Rs), (manyS f k σ).1.length = k
  | 0, σ => rfl
  | k + 1, σ => by rw [manyS, List.length_cons, manyS_len f k]
/-- what Decode hands back -/
def decBad (d : (Bs × List Sym × List Wnt) × Rs) : Bool := d.2.2 || !(d.2.1.isEmpty) || !(validF d.1.1.length d.1.2.1 d.1.2.2 == 0)
def DecP (w : World) (b : Bs) (e : Ending) (w' : World) : Prop :=
  Q w w' ∧ ((decBad (decS b) = true ∧ e = .returned (.tuple #[.agg #[.slice none 0 0, .slice none 0 0, .slice none 0 0], .int .i64 11])) ∨
    (decBad (decS b) = false ∧ ∃ vb vs vw, e = .returned (.tuple #[.agg #[vb, vs, vw], .int .i64 0]) ∧ w'.ownsRow w.heap.size 5 1 vb (decS b).1.1.length ((decS b).1.1.map (Value.int .u8)) ∧ w'.ownsRow w.heap.size 94 2 vs (decS b).1.2.1.length ((decS b).1.2.1.flatMap encSym) ∧ w'.ownsRow w.heap.size 97 3 vw (decS b).1.2.2.length ((decS b).1.2.2.flatMap encWnt) ∧ (In8 (decS b).1.1 ∧ (∀ x ∈ (decS b).1.2.1, x.1.size ≤ 255) ∧ ∀ x ∈ (decS b).1.2.2, x.2.2.size ≤ 255)))
set_option maxRecDepth 100000 in
set_option maxHeartbeats 4000000 in
theorem Decode_any (l : SlV Int) (w : World) (hb : B8 w l) (hi : In8 l.xs) : Calls Try.prog 18 #[l.val] w (DecP w l.xs) := by
  obtain ⟨A, n, c, xs⟩ := l
  unfold SlV.val
  dsimp only at hi ⊢
  obtain ⟨w3, hw3⟩ : ∃ w3, ((w.alloc (.cells #[.slice none 0 0, .slice none 0 0, .slice none 0 0] 34)).alloc (.cells #[.slice A n c, .bool false] 100)).alloc (.cells #[.slice none 0 0, .slice none 0 0, .slice none 0 0] 34) = w3 := ⟨_, rfl⟩
  have hq3 : Q w w3 := by rw [← hw3]; exact (((Q.refl w).alloc _).alloc _).alloc _
  have hI : DecI w w3 (.slice none 0 0) (.slice none 0 0) (.slice none 0 0) [] [] [] (xs, false) := by
    have a1 := heap_alloc_new w (.cells #[.slice none 0 0, .slice none 0 0, .slice none 0 0] 34)
    have a2 := heap_alloc_new (w.alloc (.cells #[.slice none 0 0, .slice none 0 0, .slice none 0 0] 34)) (.cells #[.slice A n c, .bool false] 100)
    have a3 := heap_alloc_new ((w.alloc (.cells #[.slice none 0 0, .slice none 0 0, .slice none 0 0] 34)).alloc (.cells #[.slice A n c, .bool false] 100)) (.cells #[.slice none 0 0, .slice none 0 0, .slice none 0 0] 34)
    have b1 := (heap_alloc_old (w.alloc (.cells #[.slice none 0 0, .slice none 0 0, .slice none 0 0] 34)) (.cells #[.slice A n c, .bool false] 100) (r := w.heap.size) (by simp)).trans a1
    have b2 := (heap_alloc_old ((w.alloc (.cells #[.slice none 0 0, .slice none 0 0, .slice none 0 0] 34)).alloc (.cells #[.slice A n c, .bool false] 100)) (.cells #[.slice none 0 0, .slice none 0 0, .slice none 0 0] 34) (r := w.heap.size) (by simp; omega)).trans b1
    have b3 := (heap_alloc_old ((w.alloc (.cells #[.slice none 0 0, .slice none 0 0, .slice none 0 0] 34)).alloc (.cells #[.slice A n c, .bool false] 100)) (.cells #[.slice none 0 0, .slice none 0 0, .slice none 0 0] 34) (r := w.heap.size + 1) (by simp)).trans (show _ = some (Obj.cells #[.slice A n c, .bool false] 100 (0, 0)) by rw [show (w.alloc (.cells #[.slice none 0 0, .slice none 0 0, .slice none 0 0] 34)).heap.size = w.heap.size + 1 by simp] at a2; exact a2)
    rw [hw3] at b2 b3 a3
    exact ⟨⟨hq3, by omega, ⟨⟨A, n, c, xs⟩, b3, hb, rfl⟩, hi⟩, b2, (by rw [show ((w.alloc (.cells #[.slice none 0 0, .slice none 0 0, .slice none 0 0] 34)).alloc (.cells #[.slice A n c, .bool false] 100)).heap.size = w.heap.size + 2 by simp] at a3; exact a3), World.ownsRow_nil _ _ _ _, World.ownsRow_nil _ _ _ _, World.ownsRow_nil _ _ _ _, fun x hx => (by cases hx), fun x hx => (by cases hx), fun x hx => (by cases hx)⟩
  have h2 := twoS_in (σ := (xs, false)) hi
  obtain ⟨k0, hk0⟩ : ∃ k0 : Nat, (twoS (xs, false)).1 = k0 := ⟨(twoS (xs, false)).1.toNat, by omega⟩
  have hT2 := rdTwo w w3 _ _ hI.rd
  rw [hk0] at hT2 h2
  obtain ⟨P, hP⟩ : ∃ P, bytesS (xs, false) = P := ⟨_, rfl⟩
  have hP2 : takeS k0 (twoS (xs, false)).2 = P := by rw [← hP]; unfold bytesS; rw [hk0]; rfl
  obtain ⟨N, hN⟩ : ∃ N, oneS P.2 = N := ⟨_, rfl⟩
  obtain ⟨S, hS⟩ : ∃ S, manyS symS N.1.toNat N.2 = S := ⟨_, rfl⟩
  obtain ⟨M, hM⟩ : ∃ M, oneS S.2 = M := ⟨_, rfl⟩
  obtain ⟨T, hT⟩ : ∃ T, manyS wntS M.1.toNat M.2 = T := ⟨_, rfl⟩
  have HD := hide (show decS xs = ((P.1, S.1, T.1), T.2) by unfold decS; simp only [hP, hN, hS, hM, hT])
  have HT2 := hide hT2
  have hk0b : k0 < 65536 := by omega
  have HW3 := hide hw3
  have HI := hide hI
  have HQ3 := hide hq3
  have HP2 := hide hP2
  have HN := hide hN
  have HS := hide hS
  have HM := hide hM
  have HT := hide hT
  clear hw3 hI hq3 hP2 hN hS hM hT
  clear hb hP h2 hk0 hT2
  go_enter Try.func18, Try.ntmps18
  go_wp2_with fail
  rw [HW3.out]
  rw [show w.heap.size + 1 + 1 = w.heap.size + 2 from rfl]
  refine HT2.out.mono ?_
  rintro e w4 ⟨rfl, hr4, hg4⟩
  have HI4 := hide (HI.out.reader hr4 hg4)
  have htk := take_any w w4 _ k0 _ hr4 (by omega)
  rw [HP2.out] at htk
  have HTK := hide htk
  have hi4 := hr4.i8
  have hs4 : w.heap.size ≤ w4.heap.size := hr4.q.size
  clear hr4 hg4 htk
  go_wp2_with fail
  refine HTK.out.mono ?_
  rintro e w5 ⟨v5, rfl, hv5, hr5, hg5⟩
  have hI5 := HI4.out.reader hr5 hg5
  obtain ⟨A5, d5, rfl, _⟩ := own_form hv5
  have c0 : w5.cell? ⟨w.heap.size + 2, 0, none⟩ = some (.slice none 0 0) := cell_blkJ (j := 0) hI5.ob rfl
  have f0 : w5.frozen? ⟨w.heap.size + 2, 0, none⟩ = false := free_blk hI5.ob 0
  have HI6 := hide (hI5.bytes (own_lower hv5 hs4) (HP2.out ▸ takeS_in hi4))
  obtain ⟨w6, hw6⟩ : ∃ w6, w5.setCell ⟨w.heap.size + 2, 0, none⟩ (.slice A5 P.1.length d5) = w6 := ⟨_, rfl⟩
  rw [hw6] at HI6
  have HW6 := hide hw6
  have h1 := oneS_in HI6.out.rd.i8
  rw [HN.out] at h1
  have hO := rdOne w w6 _ _ HI6.out.rd
  rw [HN.out] at hO
  obtain ⟨N1, σ1⟩ := N
  obtain ⟨n1, rfl⟩ : ∃ n1 : Nat, N1 = n1 := ⟨N1.toNat, by dsimp only at h1; omega⟩
  dsimp only at h1 hO
  have hn1 : n1 < 256 := by omega
  have HO := hide hO
  clear hv5 hr5 hg5 hw6 h1 hO hI5
  go_wp2_with fail
  rw [HW6.out]
  refine HO.out.mono ?_
  rintro e w7 ⟨rfl, hr7, hg7⟩
  have HI7 := hide (HI6.out.reader hr7 hg7)
  clear hr7 hg7 c0 f0
  go_wp2_with fail
  go_loopw [19] (fun vi wr => ∃ (k : Nat) (vs : Value), k ≤ n1 ∧ vi = .int .i64 k ∧ DecI w wr (.slice A5 P.1.length d5) vs (.slice none 0 0) P.1 (manyS symS k σ1).1 [] (manyS symS k σ1).2) (fun vi _ => n1 - (intOf vi).toNat)
  case atStart => exact ⟨0, _, by omega, by go_num, HI7.out⟩
  case round =>
    obtain ⟨k, vs, hk, rfl, hI⟩ := hrel
    have HIk := hide hI
    have hsn := manyS_snoc symS k σ1
    obtain ⟨⟨ssk, σk⟩, hMk⟩ : ∃ p, manyS symS k σ1 = p := ⟨_, rfl⟩
    rw [hMk] at HIk hsn
    dsimp only at HIk hsn
    by_cases hlt : k < n1
    · have hd1 : decide ((k : Int) < (n1 : Int)) = true := by simp; omega
      have hd0 : decide (k < n1) = true := by simp; omega
      have hlti : (k : Int) < (n1 : Int) := by omega
      have hnm := nameS_len HIk.out.rd.i8
      have hN := rdName w wr _ _ HIk.out.rd
      have hsz : (strI (nameS σk).1).size ≤ 255 := by rw [strI_size]; exact hnm
      have hss : symS σk = ((strI (nameS σk).1, (twoS (nameS σk).2).1), (twoS (nameS σk).2).2) := rfl
      obtain ⟨nm, hnme⟩ : ∃ nm, strI (nameS σk).1 = nm := ⟨_, rfl⟩
      obtain ⟨τ, hτ⟩ : ∃ τ, (nameS σk).2 = τ := ⟨_, rfl⟩
      rw [hnme, hτ] at hN hss
      rw [hnme] at hsz
      have HNM := hide hN
      have HSS := hide hss
      have HSN := hide hsn
      have HMK := hide hMk
      clear hI hMk hnm hnme hτ hN hss hsn
      go_wp2_with fail
      refine HNM.out.mono ?_
      rintro e w8 ⟨rfl, hr8, hg8⟩
      have hI8 := HIk.out.reader hr8 hg8
      have hlk : ssk.length = k := by have := manyS_len symS k σ1; rw [HMK.out] at this; exact this
      obtain ⟨As, cs, rfl, -⟩ := own_form hI8.s
      rw [hlk] at hI8
      have HLK := hide hlk
      have c1 : w8.cell? ⟨w.heap.size + 2, 1, none⟩ = some (.slice As k cs) := cell_blkJ (j := 1) hI8.ob rfl
      have hki : k ≤ 255 := by omega
      have HI8 := hide hI8
      have HT8 := hide (fun W (h : RdS w W (w.heap.size + 1) τ) => rdTwo w W _ _ h)
      clear hr8 hg8 hI8 hlk
      go_wp2_with fail
      go_region_law (first
        | (go_simp; go_at_call 58; refine (HT8.out _ (HI8.out.rd.up (Q.refl w8).drew)).mono ?_; rintro e w9 ⟨rfl, hr9, hg9⟩; have HI9 := hide ((HI8.out.up (Q.refl w8).drew).reader hr9 hg9); have c9 : w9.cell? ⟨w.heap.size + 2, 1, none⟩ = some (.slice As k cs) := (cell_blkJ (j := 1) HI9.out.ob rfl); have hlt9 : w.heap.size + 2 < w9.heap.size := (Array.getElem?_eq_some_iff.1 HI9.out.ob).1; clear hr9 hg9)
        | (refine step_app1g (by rfl) El_sym _ _ (by rfl) (by rfl) HI9.out.s rfl (by rfl) (by rfl) ?_ ?_ ?_ ?_; (focus (intro u hu; simp at hu; rcases hu with rfl | rfl <;> rfl)); (focus (rw [HLK.out]; omega)); (focus (have h9 : w.heap.size ≤ w9.heap.size := HI9.out.rd.q.size; omega)); intro v10 w10 hown10 hg10; have HO10 := hide hown10; have HG10 := hide hg10; have b10 := (blk_other HI9.out.ob HI9.out.s hg10 (by decide)); have c10 : w10.cell? ⟨w.heap.size + 2, 1, none⟩ = some (.slice As k cs) := (cell_blkJ (j := 1) b10 rfl); have f10 : w10.frozen? ⟨w.heap.size + 2, 1, none⟩ = false := (free_blk b10 1); obtain ⟨A10, d10, e10, -⟩ := own_form hown10; subst e10; clear hown10 hg10 b10))
      all_goals (
        go_wp2_with fail
        clear c10 f10 c1 c9
        go_roundw
        case rel => exact ⟨k + 1, _, by omega, by go_num, by
          have h := HI9.out.sym (x := (nm, (twoS τ).1)) HO10.out HG10.out hsz
          rw [HSN.out]
          dsimp only
          rw [HSS.out]
          exact h⟩
        case measure => simp [intOf] <;> omega)
    · have hd1 : decide ((k : Int) < (n1 : Int)) = false := by simp; omega
      have hd0 : decide (k < n1) = false := by simp; omega
      obtain rfl : k = n1 := by omega
      have hSe : S = (ssk, σk) := by rw [← HS.out, ← hMk]; show manyS symS (k : Int).toNat σ1 = _; rw [Int.toNat_natCast]
      have h1 := oneS_in HIk.out.rd.i8
      have hO := rdOne w wr _ _ HIk.out.rd
      subst hSe
      have hMe := HM.out
      dsimp only at hMe
      rw [hMe] at h1 hO
      obtain ⟨M1, τ1⟩ := M
      obtain ⟨m1, rfl⟩ : ∃ m1 : Nat, M1 = m1 := ⟨M1.toNat, by dsimp only at h1; omega⟩
      dsimp only at h1 hO
      have hm1 : m1 < 256 := by omega
      have HO := hide hO
      clear hI hMk h1 hO hMe hsn
      go_wp2_with fail
      refine HO.out.mono ?_
      rintro e w7 ⟨rfl, hr7, hg7⟩
      have HI7 := hide (HIk.out.reader hr7 hg7)
      clear hr7 hg7 hd1 hd0
      go_wp2_with fail
      go_loopw [35] (fun vi wr => ∃ (j : Nat) (vw : Value), j ≤ m1 ∧ vi = .int .i64 j ∧ DecI w wr (.slice A5 P.1.length d5) vs vw P.1 ssk (manyS wntS j τ1).1 (manyS wntS j τ1).2) (fun vi _ => m1 - (intOf vi).toNat)
      case atStart => exact ⟨0, _, by omega, by go_num, HI7.out⟩
      case round =>
        obtain ⟨j, vw, hj, rfl, hI⟩ := hrel
        have HIj := hide hI
        have hsn := manyS_snoc wntS j τ1
        obtain ⟨⟨wsj, σj⟩, hMj⟩ : ∃ p, manyS wntS j τ1 = p := ⟨_, rfl⟩
        rw [hMj] at HIj hsn
        dsimp only at HIj hsn
        by_cases hlt2 : j < m1
        · have hd1 : decide ((j : Int) < (m1 : Int)) = true := by simp; omega
          have hd0 : decide (j < m1) = true := by simp; omega
          have hlti : (j : Int) < (m1 : Int) := by omega
          have hO := rdOne w wr _ _ HIj.out.rd
          have hkd := oneS_in HIj.out.rd.i8
          have hss : wntS σj = (((twoS (nameS (oneS σj).2).2).1, (oneS σj).1, strI (nameS (oneS σj).2).1), (twoS (nameS (oneS σj).2).2).2) := rfl
          obtain ⟨⟨kd, σ2⟩, hoe⟩ : ∃ p, oneS σj = p := ⟨_, rfl⟩
          rw [hoe] at hO hkd hss
          dsimp only at hO hkd hss
          have HO := hide hO
          have HSN := hide hsn
          have HMJ := hide hMj
          have HLJ := hide (show wsj.length = j by have := manyS_len wntS j τ1; rw [hMj] at this; exact this)
          clear hI hMj hO hsn hoe
          go_wp2_with fail
          refine HO.out.mono ?_
          rintro e w5' ⟨rfl, hr5, hg5⟩
          have hI5 := HIj.out.reader hr5 hg5
          have hnm := nameS_len hI5.rd.i8
          have hN := rdName w w5' _ _ hI5.rd
          have hsz : (strI (nameS σ2).1).size ≤ 255 := by rw [strI_size]; exact hnm
          obtain ⟨nm, hnme⟩ : ∃ nm, strI (nameS σ2).1 = nm := ⟨_, rfl⟩
          obtain ⟨τ, hτ⟩ : ∃ τ, (nameS σ2).2 = τ := ⟨_, rfl⟩
          rw [hnme, hτ] at hN hss
          rw [hnme] at hsz
          have HNM := hide hN
          have HSS := hide hss
          have HI5 := hide hI5
          clear hr5 hg5 hI5 hnm hnme hτ hN hss
          go_wp2_with fail
          refine HNM.out.mono ?_
          rintro e w8 ⟨rfl, hr8, hg8⟩
          have hI8 := HI5.out.reader hr8 hg8
          obtain ⟨As, cs, rfl, -⟩ := own_form hI8.t
          rw [HLJ.out] at hI8
          have c1 : w8.cell? ⟨w.heap.size + 2, 2, none⟩ = some (.slice As j cs) := cell_blkJ (j := 2) hI8.ob rfl
          have hji : j ≤ 255 := by omega
          have HI8 := hide hI8
          have HT8 := hide (fun W (h : RdS w W (w.heap.size + 1) τ) => rdTwo w W _ _ h)
          clear hr8 hg8 hI8
          go_wp2_with fail
          go_region_law (first
            | (go_simp; go_at_call 58; refine (HT8.out _ (HI8.out.rd.up (Q.refl w8).drew)).mono ?_; rintro e w9 ⟨rfl, hr9, hg9⟩; have HI9 := hide ((HI8.out.up (Q.refl w8).drew).reader hr9 hg9); have c9 : w9.cell? ⟨w.heap.size + 2, 2, none⟩ = some (.slice As j cs) := (cell_blkJ (j := 2) HI9.out.ob rfl); have hlt9 : w.heap.size + 2 < w9.heap.size := (Array.getElem?_eq_some_iff.1 HI9.out.ob).1; clear hr9 hg9)
            | (refine step_app1g (by rfl) El_wnt _ _ (by rfl) (by rfl) HI9.out.t rfl (by rfl) (by rfl) ?_ ?_ ?_ ?_; (focus (intro u hu; simp at hu; rcases hu with rfl | rfl | rfl <;> rfl)); (focus (rw [HLJ.out]; omega)); (focus (have h9 : w.heap.size ≤ w9.heap.size := HI9.out.rd.q.size; omega)); intro v10 w10 hown10 hg10; have HO10 := hide hown10; have HG10 := hide hg10; have b10 := (blk_other HI9.out.ob HI9.out.t hg10 (by decide)); have c10 : w10.cell? ⟨w.heap.size + 2, 2, none⟩ = some (.slice As j cs) := (cell_blkJ (j := 2) b10 rfl); have f10 : w10.frozen? ⟨w.heap.size + 2, 2, none⟩ = false := (free_blk b10 2); obtain ⟨A10, d10, e10, -⟩ := own_form hown10; subst e10; clear hown10 hg10 b10))
          all_goals (
            go_wp2_with fail
            clear c10 f10 c1 c9
            go_roundw
            case rel => exact ⟨j + 1, _, by omega, by go_num, by
              have h := HI9.out.wnt (x := ((twoS τ).1, kd, nm)) HO10.out HG10.out hsz
              rw [HSN.out]
              dsimp only
              rw [HSS.out]
              exact h⟩
            case measure => simp [intOf] <;> omega)
        · have hd1 : decide ((j : Int) < (m1 : Int)) = false := by simp; omega
          have hd0 : decide (j < m1) = false := by simp; omega
          obtain rfl : j = m1 := by omega
          have hTe : T = (wsj, σj) := by rw [← HT.out, ← hMj]; show manyS wntS (j : Int).toNat τ1 = _; rw [Int.toNat_natCast]
          subst hTe
          obtain ⟨Lf, sh⟩ := σj
          obtain ⟨⟨lA, ln, lc, lx⟩, hbk, hB8, hlx⟩ := HIj.out.rd.st
          dsimp only at hlx
          have hll := hB8.sl.len
          dsimp only at hll
          obtain ⟨As, cs, rfl, -⟩ := own_form HIj.out.s
          obtain ⟨Aw, cw, rfl, -⟩ := own_form HIj.out.t
          have c0 : wr.cell? ⟨w.heap.size + 1, 0, none⟩ = some (.slice lA ln lc) := cell_blkJ (j := 0) hbk rfl
          have c1 : wr.cell? ⟨w.heap.size + 1, 1, none⟩ = some (.bool sh) := cell_blkJ (j := 1) hbk rfl
          have r0 : wr.cell? ⟨w.heap.size, 0, none⟩ = some (.slice none 0 0) := cell_blkJ (j := 0) HIj.out.d0 rfl
          have r1 : wr.cell? ⟨w.heap.size, 1, none⟩ = some (.slice none 0 0) := cell_blkJ (j := 1) HIj.out.d0 rfl
          have r2 : wr.cell? ⟨w.heap.size, 2, none⟩ = some (.slice none 0 0) := cell_blkJ (j := 2) HIj.out.d0 rfl
          have f0 := free_blk HIj.out.d0 0
          have f1 := free_blk HIj.out.d0 1
          have f2 := free_blk HIj.out.d0 2
          have hbad : decBad (decS xs) = (sh || !(Lf.isEmpty) || !(validF P.1.length ssk wsj == 0)) := by rw [HD.out]; rfl
          have HBAD := hide hbad
          have hzi : (0 : Int) ≤ (ln : Int) := by omega
          clear hI hMj hsn hbk hB8 hbad
          cases sh with
          | true =>
            obtain ⟨s0, s1, s2⟩ := set3 wr w.heap.size _ _ _ (.slice none 0 0) (.slice none 0 0) (.slice none 0 0) r0 r1 r2
            have hdn := HIj.out.done (.slice none 0 0) (.slice none 0 0) (.slice none 0 0)
            have HDN := hide hdn
            have S0 := hide s0
            have S1 := hide s1
            have S2 := hide s2
            clear s0 s1 s2 hdn
            go_wp2_with fail
            have s0 := S0.out
            have s1 := S1.out
            have s2 := S2.out
            refine bodyPost_ret (v := .tuple #[.agg #[.slice none 0 0, .slice none 0 0, .slice none 0 0], .int .i64 11]) (by simp [results, Try.results18, go_sem, s0, s1, s2]) rfl ?_
            exact ⟨HDN.out.1, .inl ⟨by rw [HBAD.out]; rfl, rfl⟩⟩
          | false =>
            rcases Nat.eq_zero_or_pos ln with hz | hz
            · have hd : decide ((0 : Int) < (ln : Int)) = false := by rw [hz]; rfl
              have hd2 : decide (0 < ln) = false := by rw [hz]; rfl
              have hLe : Lf = [] := by rw [← hlx]; exact List.eq_nil_of_length_eq_zero (by omega)
              have o0 : wr.cell? ⟨w.heap.size + 2, 0, none⟩ = some (.slice A5 P.1.length d5) := cell_blkJ (j := 0) HIj.out.ob rfl
              have o1 : wr.cell? ⟨w.heap.size + 2, 1, none⟩ = some (.slice As ssk.length cs) := cell_blkJ (j := 1) HIj.out.ob rfl
              have o2 : wr.cell? ⟨w.heap.size + 2, 2, none⟩ = some (.slice Aw wsj.length cw) := cell_blkJ (j := 2) HIj.out.ob rfl
              have HV := hide (Validate_any A5 P.1.length d5 As ssk.length cs ssk Aw wsj.length cw wsj wr (Sl.own HIj.out.s (fun _ => rfl) (by decide)) (Sl.own HIj.out.t (fun _ => rfl) (by decide)) (fun x hx => by have := HIj.out.sn x hx; omega) (fun x hx => by have := HIj.out.tn x hx; omega))
              obtain ⟨vd, hvd⟩ : ∃ vd, validF P.1.length ssk wsj = vd := ⟨_, rfl⟩
              rw [hvd] at HV HBAD
              rw [hLe] at HBAD
              obtain ⟨N5, hN5⟩ : ∃ N5, P.1.length = N5 := ⟨_, rfl⟩
              obtain ⟨N6, hN6⟩ : ∃ N6, ssk.length = N6 := ⟨_, rfl⟩
              obtain ⟨N7, hN7⟩ : ∃ N7, wsj.length = N7 := ⟨_, rfl⟩
              rw [hN5, hN6, hN7] at HV
              rw [hN5] at o0
              rw [hN6] at o1
              rw [hN7] at o2
              have HN5 := hide hN5
              have HN6 := hide hN6
              have HN7 := hide hN7
              clear hvd hLe hz hlx hll hN5 hN6 hN7
              go_wp2_with fail
              refine HV.out.mono ?_
              rintro e w9 ⟨rfl, hq9⟩
              have hI9 := HIj.out.up hq9
              have r0 : w9.cell? ⟨w.heap.size, 0, none⟩ = some (.slice none 0 0) := cell_blkJ (j := 0) hI9.d0 rfl
              have r1 : w9.cell? ⟨w.heap.size, 1, none⟩ = some (.slice none 0 0) := cell_blkJ (j := 1) hI9.d0 rfl
              have r2 : w9.cell? ⟨w.heap.size, 2, none⟩ = some (.slice none 0 0) := cell_blkJ (j := 2) hI9.d0 rfl
              have f0 := free_blk hI9.d0 0
              have f1 := free_blk hI9.d0 1
              have f2 := free_blk hI9.d0 2
              have o0 : w9.cell? ⟨w.heap.size + 2, 0, none⟩ = some (.slice A5 N5 d5) := by rw [← HN5.out]; exact cell_blkJ (j := 0) hI9.ob rfl
              have o1 : w9.cell? ⟨w.heap.size + 2, 1, none⟩ = some (.slice As N6 cs) := by rw [← HN6.out]; exact cell_blkJ (j := 1) hI9.ob rfl
              have o2 : w9.cell? ⟨w.heap.size + 2, 2, none⟩ = some (.slice Aw N7 cw) := by rw [← HN7.out]; exact cell_blkJ (j := 2) hI9.ob rfl
              have HI9 := hide hI9
              clear hq9 hI9
              rcases Nat.eq_zero_or_pos vd with hv | hv
              · have hd4 : ((vd : Int) != 0) = false := by rw [hv]; rfl
                obtain ⟨s0, s1, s2⟩ := set3 w9 w.heap.size _ _ _ (.slice A5 N5 d5) (.slice As N6 cs) (.slice Aw N7 cw) r0 r1 r2
                have hdn := HI9.out.done (.slice A5 N5 d5) (.slice As N6 cs) (.slice Aw N7 cw)
                have HDN := hide hdn
                have S0 := hide s0
                have S1 := hide s1
                have S2 := hide s2
                have HB := hide (show decBad (decS xs) = false by rw [HBAD.out, hv]; rfl)
                clear s0 s1 s2 hdn hv
                go_wp2_with fail
                have s0 := S0.out
                have s1 := S1.out
                have s2 := S2.out
                refine bodyPost_ret (v := .tuple #[.agg #[.slice A5 N5 d5, .slice As N6 cs, .slice Aw N7 cw], .int .i64 0]) (by simp [results, Try.results18, go_sem, s0, s1, s2]) rfl ?_
                obtain ⟨d1, d2, d3, d4⟩ := HDN.out
                rw [HN5.out] at d2
                rw [HN6.out] at d3
                rw [HN7.out] at d4
                refine ⟨d1, .inr ⟨HB.out, _, _, _, rfl, ?_⟩⟩
                rw [HD.out]
                dsimp only
                rw [HN5.out, HN6.out, HN7.out]
                exact ⟨d2, d3, d4, HI9.out.bi, HI9.out.sn, HI9.out.tn⟩
              · have hd4 : ((vd : Int) != 0) = true := by simp; omega
                obtain ⟨s0, s1, s2⟩ := set3 w9 w.heap.size _ _ _ (.slice none 0 0) (.slice none 0 0) (.slice none 0 0) r0 r1 r2
                have hdn := HI9.out.done (.slice none 0 0) (.slice none 0 0) (.slice none 0 0)
                have HDN := hide hdn
                have S0 := hide s0
                have S1 := hide s1
                have S2 := hide s2
                have HB := hide (show decBad (decS xs) = true by rw [HBAD.out]; simp; omega)
                clear s0 s1 s2 hdn hv
                go_wp2_with fail
                have s0 := S0.out
                have s1 := S1.out
                have s2 := S2.out
                refine bodyPost_ret (v := .tuple #[.agg #[.slice none 0 0, .slice none 0 0, .slice none 0 0], .int .i64 11]) (by simp [results, Try.results18, go_sem, s0, s1, s2]) rfl ?_
                exact ⟨HDN.out.1, .inl ⟨HB.out, rfl⟩⟩
            · have hd : decide ((0 : Int) < (ln : Int)) = true := decide_eq_true (by omega)
              have hd2 : decide (0 < ln) = true := decide_eq_true hz
              have hLe : Lf.isEmpty = false := by rw [← hlx]; cases lx with
                | nil => simp at hll; omega
                | cons => rfl
              obtain ⟨s0, s1, s2⟩ := set3 wr w.heap.size _ _ _ (.slice none 0 0) (.slice none 0 0) (.slice none 0 0) r0 r1 r2
              have hdn := HIj.out.done (.slice none 0 0) (.slice none 0 0) (.slice none 0 0)
              have HDN := hide hdn
              have S0 := hide s0
              have S1 := hide s1
              have S2 := hide s2
              have HB := hide (show decBad (decS xs) = true by rw [HBAD.out, hLe]; rfl)
              clear s0 s1 s2 hdn hLe hz hlx hll
              go_wp2_with fail
              have s0 := S0.out
              have s1 := S1.out
              have s2 := S2.out
              refine bodyPost_ret (v := .tuple #[.agg #[.slice none 0 0, .slice none 0 0, .slice none 0 0], .int .i64 11]) (by simp [results, Try.results18, go_sem, s0, s1, s2]) rfl ?_
              exact ⟨HDN.out.1, .inl ⟨HB.out, rfl⟩⟩
end Go.Proofs.Ytiilkiggfjpibaa

namespace Go.Proofs.Ytiilkiggfjpibaa
open Go.RowKit LK
set_option linter.unusedVariables false
set_option linter.unusedSimpArgs false
theorem takeO_app (a r : Bs) (n : Nat) (h : a.length = n) : takeO n (a ++ r) = some (a, r) := by
  subst h
  unfold takeO
  rw [if_pos (by simp), List.take_left, List.drop_left]
theorem oneO_app {n : Int} (h : 0 ≤ n ∧ n < 256) (r : Bs) : oneO (oneL n ++ r) = some (n, r) := by
  unfold oneO
  rw [takeO_app (oneL n) r 1 rfl]
  simp [oneL]
  omega
theorem twoO_app {n : Int} (h : 0 ≤ n ∧ n < 65536) (r : Bs) : twoO (twoL n ++ r) = some (n, r) := by
  unfold twoO
  rw [takeO_app (twoL n) r 2 rfl]
  simp [twoL, num2]
  omega
theorem strI_nat8 (s : ByteArray) : strI (nat8 s) = s := by
  apply nat_inj
  unfold strI strN nat8 nat
  simp only [List.map_map]
  conv => rhs; rw [← List.map_id (List.map UInt8.toNat s.data.toList)]
  rw [List.map_map]
  apply List.map_congr_left
  intro x hx
  have := x.toNat_lt
  simp
theorem nameO_app {s : ByteArray} (h : s.size ≤ 255) (r : Bs) : nameO (namedL s ++ r) = some (nat8 s, r) := by
  unfold nameO namedL
  rw [List.append_assoc, oneO_app (by omega)]
  simp only [Option.bind_some, Int.toNat_natCast]
  exact takeO_app _ _ _ (nat8_len s)
theorem symO_app {x : Sym} (h : x.1.size ≤ 255 ∧ 0 ≤ x.2 ∧ x.2 < 65536) (r : Bs) : symO (symL x ++ r) = some (x, r) := by
  unfold symO symL
  rw [List.append_assoc, nameO_app h.1]
  simp only [Option.bind_some]
  rw [twoO_app h.2]
  simp [strI_nat8]
theorem wntO_app {x : Wnt} (h : x.2.2.size ≤ 255 ∧ (0 ≤ x.1 ∧ x.1 < 65536) ∧ (0 ≤ x.2.1 ∧ x.2.1 < 256)) (r : Bs) : wntO (wntL x ++ r) = some (x, r) := by
  unfold wntO wntL
  rw [List.append_assoc, List.append_assoc, oneO_app h.2.2]
  simp only [Option.bind_some]
  rw [nameO_app h.1]
  simp only [Option.bind_some]
  rw [twoO_app h.2.1]
  simp [strI_nat8]
theorem manyO_app {α : Type} {g : Bs → Option (α × Bs)} {e : α → Bs} : ∀ (xs : List α) (r : Bs), (∀ x ∈ xs, ∀ r, g (e x ++ r) = some (x, r)) → manyO g xs.length (xs.flatMap e ++ r) = some (xs, r)
  | [], r, _ => rfl
  | x :: xs, r, h => by
    rw [List.length_cons, manyO, List.flatMap_cons, List.append_assoc, h x (List.mem_cons_self ..)]
    simp only [Option.bind_some]
    rw [manyO_app xs r (fun y hy => h y (List.mem_cons_of_mem _ hy))]
    rfl
theorem enc_dec {bs : Bs} {ss : List Sym} {ws : List Wnt} (h : Fit bs ss ws) : decO (encL bs ss ws) = some ((bs, ss, ws), []) := by
  have hb := h.b
  have hs := h.s
  have hw := h.w
  unfold decO bytesO encL
  simp only [List.append_assoc]
  rw [twoO_app (by omega)]
  simp only [Option.bind_some, Int.toNat_natCast]
  rw [takeO_app bs _ _ rfl]
  simp only [Option.bind_some]
  rw [oneO_app (by omega)]
  simp only [Option.bind_some, Int.toNat_natCast]
  rw [manyO_app ss _ (fun x hx r => symO_app (by have := h.sa x hx; omega) r)]
  simp only [Option.bind_some]
  rw [oneO_app (by omega)]
  simp only [Option.bind_some, Int.toNat_natCast]
  have := manyO_app ws [] (fun x hx r => wntO_app (by have := h.wa x hx; omega) r)
  rw [List.append_nil] at this
  rw [this]
  rfl
theorem enc_good {w : World} {o : OV} (hO : ObR w o) (h : o.valid = 0) : decBad (decS (encR o)) = false ∧ (decS (encR o)).1 = (o.1.xs, o.2.1.xs, o.2.2.xs) := by
  have hf := Fit.of hO h
  have e : encR o = encL o.1.xs o.2.1.xs o.2.2.xs := by unfold encR; rw [if_pos h]
  have hd := dec_like (encL o.1.xs o.2.1.xs o.2.2.xs)
  rw [enc_dec hf] at hd
  simp only at hd
  rw [e, hd]
  refine ⟨?_, rfl⟩
  unfold decBad
  simp only [List.isEmpty_nil, Bool.not_true, Bool.or_self, Bool.false_or]
  have hv : validF o.1.xs.length o.2.1.xs o.2.2.xs = 0 := by rw [hO.b.len]; exact h
  rw [hv]
  rfl
end Go.Proofs.Ytiilkiggfjpibaa
