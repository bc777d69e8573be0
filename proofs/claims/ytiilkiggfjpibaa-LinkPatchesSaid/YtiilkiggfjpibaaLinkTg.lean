/- The reference's reading of an object's bytes, in plain Lean: it comes to the same. Conditions: as each theorem says. -/
import Derived.Test.YtiilkiggfjpibaaLinkU8
namespace Go.Proofs.Ytiilkiggfjpibaa
open Go.RowKit LK
set_option linter.unusedVariables false
set_option linter.unusedSimpArgs false
def takeR (n : Nat) (σ : Rs) : Bs × Rs := if n ≤ σ.1.length then (σ.1.take n, (σ.1.drop n, σ.2)) else (List.replicate n 0, (σ.1, true))
def oneR (σ : Rs) : Int × Rs := ((takeR 1 σ).1.headD 0, (takeR 1 σ).2)
def twoR (σ : Rs) : Int × Rs := (num2 (takeR 2 σ).1, (takeR 2 σ).2)
def nameR (σ : Rs) : Bs × Rs := takeR (oneR σ).1.toNat (oneR σ).2
def symR (σ : Rs) : Sym × Rs := ((strI (nameR σ).1, (twoR (nameR σ).2).1), (twoR (nameR σ).2).2)
def wntR (σ : Rs) : Wnt × Rs := (((twoR (nameR (oneR σ).2).2).1, (oneR σ).1, strI (nameR (oneR σ).2).1), (twoR (nameR (oneR σ).2).2).2)
def manyR {α : Type} (f : Rs → α × Rs) : Nat → Rs → List α × Rs
  | 0, σ => ([], σ)
  | k + 1, σ => if σ.2 = true then ([], σ) else ((f σ).1 :: (manyR f k (f σ).2).1, (manyR f k (f σ).2).2)
def bytesR (σ : Rs) : Bs × Rs := takeR (twoR σ).1.toNat (twoR σ).2
def decR (b : Bs) : (Bs × List Sym × List Wnt) × Rs :=
  let p := bytesR (b, false)
  let n := oneR p.2
  let q := manyR symR n.1.toNat n.2
  let m := oneR q.2
  let r := manyR wntR m.1.toNat m.2
  ((p.1, q.1, r.1), r.2)
theorem manyR_stop {α : Type} {f : Rs → α × Rs} {k : Nat} {σ : Rs} (h : σ.2 = true) : manyR f k σ = ([], σ) := by
  cases k with
  | zero => rfl
  | succ k => rw [manyR, if_pos h]
theorem manyR_go {α : Type} {f : Rs → α × Rs} {k : Nat} {σ : Rs} (h : σ.2 = false) : manyR f (k + 1) σ = ((f σ).1 :: (manyR f k (f σ).2).1, (manyR f k (f σ).2).2) := by
  rw [manyR, if_neg (by rw [h]; exact Bool.false_ne_true)]
theorem Like.takeR (n : Nat) : Like (takeR n) (takeO n) := by
  refine ⟨fun l => ?_, fun l => ?_⟩
  · unfold takeO Go.Proofs.Ytiilkiggfjpibaa.takeR
    by_cases h : n ≤ l.length
    · simp [h]
    · simp [h]
  · unfold Go.Proofs.Ytiilkiggfjpibaa.takeR
    split <;> rfl
theorem Like.oneR : Like oneR oneO := (Like.takeR 1).map fun l => l.headD 0
theorem Like.twoR : Like twoR twoO := (Like.takeR 2).map num2
theorem Like.nameR : Like nameR nameO := Like.oneR.bind fun a => Like.takeR a.toNat
theorem Like.symR : Like symR symO := Like.nameR.bind (β := Sym) (f2 := fun a σ => ((strI a, (Go.Proofs.Ytiilkiggfjpibaa.twoR σ).1), (Go.Proofs.Ytiilkiggfjpibaa.twoR σ).2)) (g2 := fun a l => (twoO l).map fun (q : Int × Bs) => ((strI a, q.1), q.2)) fun a => Like.twoR.map fun q => (strI a, q)
theorem Like.wntR : Like wntR wntO :=
  Like.oneR.bind (β := Wnt) (f2 := fun k σ => (((Go.Proofs.Ytiilkiggfjpibaa.twoR (Go.Proofs.Ytiilkiggfjpibaa.nameR σ).2).1, k, strI (Go.Proofs.Ytiilkiggfjpibaa.nameR σ).1), (Go.Proofs.Ytiilkiggfjpibaa.twoR (Go.Proofs.Ytiilkiggfjpibaa.nameR σ).2).2)) (g2 := fun k l => (nameO l).bind fun (p : Bs × Bs) => (twoO p.2).map fun (q : Int × Bs) => ((q.1, k, strI p.1), q.2)) fun k =>
    Like.nameR.bind (β := Wnt) (f2 := fun a σ => (((Go.Proofs.Ytiilkiggfjpibaa.twoR σ).1, k, strI a), (Go.Proofs.Ytiilkiggfjpibaa.twoR σ).2)) (g2 := fun a l => (twoO l).map fun (q : Int × Bs) => ((q.1, k, strI a), q.2)) fun a => Like.twoR.map fun q => (q, k, strI a)
theorem Like.manyR {α : Type} {f : Rs → α × Rs} {g : Bs → Option (α × Bs)} (h : Like f g) : ∀ k, Like (manyR f k) (manyO g k)
  | 0 => ⟨fun l => rfl, fun l => rfl⟩
  | k + 1 => by
    refine ⟨fun l => ?_, fun l => by rw [manyR_stop rfl]⟩
    have hb := (h.bind (β := List α) (f2 := fun a σ => (a :: (Go.Proofs.Ytiilkiggfjpibaa.manyR f k σ).1, (Go.Proofs.Ytiilkiggfjpibaa.manyR f k σ).2)) (g2 := fun a l => (manyO g k l).map fun (q : List α × Bs) => (a :: q.1, q.2)) fun a => (Like.manyR h k).map fun q => a :: q).1 l
    rw [manyR_go rfl]
    exact hb
theorem Like.bytesR : Like bytesR bytesO := Like.twoR.bind fun a => Like.takeR a.toNat
theorem decR_like (b : Bs) : match decO b with | some p => decR b = (p.1, (p.2, false)) | none => (decR b).2.2 = true := by
  have h : Like (fun σ => (((bytesR σ).1, (manyR symR (oneR (bytesR σ).2).1.toNat (oneR (bytesR σ).2).2).1, (manyR wntR (oneR (manyR symR (oneR (bytesR σ).2).1.toNat (oneR (bytesR σ).2).2).2).1.toNat (oneR (manyR symR (oneR (bytesR σ).2).1.toNat (oneR (bytesR σ).2).2).2).2).1),
      (manyR wntR (oneR (manyR symR (oneR (bytesR σ).2).1.toNat (oneR (bytesR σ).2).2).2).1.toNat (oneR (manyR symR (oneR (bytesR σ).2).1.toNat (oneR (bytesR σ).2).2).2).2).2)) decO :=
    Like.bytesR.bind (β := Bs × List Sym × List Wnt) (f2 := fun p σ => ((p, (manyR symR (oneR σ).1.toNat (oneR σ).2).1, (manyR wntR (oneR (manyR symR (oneR σ).1.toNat (oneR σ).2).2).1.toNat (oneR (manyR symR (oneR σ).1.toNat (oneR σ).2).2).2).1), (manyR wntR (oneR (manyR symR (oneR σ).1.toNat (oneR σ).2).2).1.toNat (oneR (manyR symR (oneR σ).1.toNat (oneR σ).2).2).2).2))
      (g2 := fun p l => (oneO l).bind fun (n : Int × Bs) => (manyO symO n.1.toNat n.2).bind fun (q : List Sym × Bs) => (oneO q.2).bind fun (m : Int × Bs) => (manyO wntO m.1.toNat m.2).map fun (r : List Wnt × Bs) => ((p, q.1, r.1), r.2)) fun p =>
    Like.oneR.bind (β := Bs × List Sym × List Wnt) (f2 := fun n σ => ((p, (manyR symR n.toNat σ).1, (manyR wntR (oneR (manyR symR n.toNat σ).2).1.toNat (oneR (manyR symR n.toNat σ).2).2).1), (manyR wntR (oneR (manyR symR n.toNat σ).2).1.toNat (oneR (manyR symR n.toNat σ).2).2).2))
      (g2 := fun n l => (manyO symO n.toNat l).bind fun (q : List Sym × Bs) => (oneO q.2).bind fun (m : Int × Bs) => (manyO wntO m.1.toNat m.2).map fun (r : List Wnt × Bs) => ((p, q.1, r.1), r.2)) fun n =>
    (Like.symR.manyR n.toNat).bind (β := Bs × List Sym × List Wnt) (f2 := fun q σ => ((p, q, (manyR wntR (oneR σ).1.toNat (oneR σ).2).1), (manyR wntR (oneR σ).1.toNat (oneR σ).2).2))
      (g2 := fun q l => (oneO l).bind fun (m : Int × Bs) => (manyO wntO m.1.toNat m.2).map fun (r : List Wnt × Bs) => ((p, q, r.1), r.2)) fun q =>
    Like.oneR.bind (β := Bs × List Sym × List Wnt) (f2 := fun m σ => ((p, q, (manyR wntR m.toNat σ).1), (manyR wntR m.toNat σ).2)) (g2 := fun m l => (manyO wntO m.toNat l).map fun (r : List Wnt × Bs) => ((p, q, r.1), r.2)) fun m =>
    (Like.wntR.manyR m.toNat).map fun r => (p, q, r)
  have h1 := h.1 b
  cases hd : decO b with
  | none => rw [hd] at h1; exact h1
  | some p => rw [hd] at h1; exact h1
/-- what the reference says is broken -/
def decBadR (b : Bs) (d : (Bs × List Sym × List Wnt) × Rs) : Bool := d.2.2 || (!(validF d.1.1.length d.1.2.1 d.1.2.2 == 0) || !(encL d.1.1 d.1.2.1 d.1.2.2 == b))
theorem dec_same {b : Bs} (hb : In8 b) : decBad (decS b) = decBadR b (decR b) ∧ (decBad (decS b) = false → (decS b).1 = (decR b).1 ∧ encL (decS b).1.1 (decS b).1.2.1 (decS b).1.2.2 = b) := by
  have h1 := dec_like b
  have h2 := decR_like b
  cases hd : decO b with
  | none =>
    rw [hd] at h1 h2
    simp only at h1 h2
    have e1 : decBad (decS b) = true := by unfold decBad; rw [h1]; rfl
    have e2 : decBadR b (decR b) = true := by unfold decBadR; rw [h2]; rfl
    exact ⟨e1.trans e2.symm, fun h => by rw [e1] at h; cases h⟩
  | some p =>
    obtain ⟨e, hi⟩ := dec_undo hb hd
    rw [hd] at h1 h2
    simp only at h1 h2
    rw [h1, h2]
    obtain ⟨⟨bs, ss, ws⟩, r⟩ := p
    dsimp only at e hi ⊢
    have hr : (encL bs ss ws == b) = r.isEmpty := by
      cases r with
      | nil => rw [List.append_nil] at e; rw [← e]; simp
      | cons x r =>
        simp only [List.isEmpty_cons, beq_eq_false_iff_ne, ne_eq]
        intro h
        have := congrArg List.length e
        rw [h] at this
        simp at this
    unfold decBad decBadR
    dsimp only
    rw [hr]
    refine ⟨?_, fun h => ⟨rfl, ?_⟩⟩
    · cases validF bs.length ss ws == 0 <;> cases r.isEmpty <;> rfl
    · simp only [Bool.false_or, Bool.or_eq_false_iff, Bool.not_eq_false'] at h
      have : r = [] := List.isEmpty_iff.1 h.1
      rw [this, List.append_nil] at e
      exact e.symm
end Go.Proofs.Ytiilkiggfjpibaa
