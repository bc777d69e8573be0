/- Lists of tokens xs slices read; the walks of the reference's Same and Equal. Conditions: the slices read xs tokens. -/
import Derived.Test.YtofigpjabamnhaaDoorLexT
namespace Go.Proofs.YtofigpjabamnhaaDoor
open Go.RowKit LX
set_option linter.unusedVariables false
abbrev G := Int × Int × ByteArray
def gcells (g : G) : List Value := [.int .i64 g.1, .int .i64 g.2.1, .string g.2.2]
def gflat (ts : List G) : List Value := ts.flatMap gcells
def gOf (s : ByteArray) (t : Tok) : G := ((t.1 : Int), (t.2.1 : Int), s.extract t.2.1 (t.2.1 + t.2.2))
theorem gflat_of (s : ByteArray) (ts : List Tok) : tflat s ts = gflat (ts.map (gOf s)) := by
  unfold tflat gflat
  rw [List.flatMap_map]
  rfl
theorem gflat_length (ts : List G) : (gflat ts).length = ts.length * 3 := by
  induction ts with
  | nil => rfl
  | cons t ts ih =>
    have : gflat (t :: ts) = gcells t ++ gflat ts := rfl
    rw [this, List.length_append, ih]
    simp [gcells]
    omega
theorem gflat_get (ts : List G) (i : Nat) (k a : Int) (t : ByteArray) (h : ts[i]? = some (k, a, t)) :
    (gflat ts)[i * 3]? = some (.int .i64 k) ∧ (gflat ts)[i * 3 + 1]? = some (.int .i64 a) ∧ (gflat ts)[i * 3 + 2]? = some (.string t) := by
  induction ts generalizing i with
  | nil => simp at h
  | cons u ts ih =>
    have e : gflat (u :: ts) = gcells u ++ gflat ts := rfl
    rcases i with _ | i
    · simp at h
      subst h
      exact ⟨rfl, rfl, rfl⟩
    · have := ih i (by simpa using h)
      have hl : (gcells u).length = 3 := rfl
      rw [e, List.getElem?_append_right (by rw [hl]; omega), List.getElem?_append_right (by rw [hl]; omega), List.getElem?_append_right (by rw [hl]; omega), hl]
      rw [show (i + 1) * 3 - 3 = i * 3 by omega, show (i + 1) * 3 + 1 - 3 = i * 3 + 1 by omega, show (i + 1) * 3 + 2 - 3 = i * 3 + 2 by omega]
      exact this
/-- a slice of tokens, xs a walk is told of it -/
structure GToks (w : World) (A : Option Addr) (n c : Nat) (ts : List G) : Prop where
  rd : Rd w w.heap.size A (gflat ts)
  len : ts.length = n
  cap : n ≤ c
  most : n ≤ 4611686018427387903
theorem GToks.up {w w' : World} {A : Option Addr} {n c : Nat} {ts : List G} (h : GToks w A n c ts) (hq : Q w w') : GToks w' A n c ts := ⟨h.rd.up hq, h.len, h.cap, h.most⟩
/-- token i of it -/
theorem GToks.at_ {w : World} {A : Option Addr} {n c : Nat} {ts : List G} (h : GToks w A n c ts) (i : Nat) (hi : i < n) :
    ∃ b o k a t, A = some ⟨b, o, none⟩ ∧ b < w.heap.size ∧ ts[i]? = some (k, a, t) ∧ w.cell? ⟨b, o + i * 3, none⟩ = some (.int .i64 k) ∧ w.cell? ⟨b, o + i * 3 + 1, none⟩ = some (.int .i64 a) ∧ w.cell? ⟨b, o + i * 3 + 2, none⟩ = some (.string t) := by
  have hl := h.len
  obtain ⟨b, o, e, hb, hc⟩ := h.rd.at_ (by rw [gflat_length]; omega)
  obtain ⟨k, a, t, hg⟩ : ∃ k a t, ts[i]? = some (k, a, t) := ⟨ts[i].1, ts[i].2.1, ts[i].2.2, by simp [show i < ts.length by omega]⟩
  obtain ⟨g1, g2, g3⟩ := gflat_get ts i k a t hg
  refine ⟨b, o, k, a, t, e, hb, hg, ?_, ?_, ?_⟩
  · rw [hc _ (by rw [gflat_length]; omega), ← List.getElem?_eq_getElem, g1]
  · rw [Nat.add_assoc, hc _ (by rw [gflat_length]; omega), ← List.getElem?_eq_getElem, g2]
  · rw [Nat.add_assoc, hc _ (by rw [gflat_length]; omega), ← List.getElem?_eq_getElem, g3]
def sameG (a b : G) : Bool := a.1 == b.1 && a.2.2.toList == b.2.2.toList
def sameB : List G → List G → Bool
  | [], [] => true
  | a :: xs, b :: ys => sameG a b && sameB xs ys
  | _, _ => false
theorem sameB_len : ∀ (xs ys : List G), xs.length ≠ ys.length → sameB xs ys = false
  | [], [], h => absurd rfl h
  | [], _ :: _, _ => rfl
  | _ :: _, [], _ => rfl
  | a :: xs, b :: ys, h => by
    unfold sameB
    rw [sameB_len xs ys (fun e => h (by simp [e]))]
    simp
theorem sameB_true : ∀ (xs ys : List G), xs.length = ys.length → (∀ (i : Nat) (a b : G), xs[i]? = some a → ys[i]? = some b → sameG a b = true) → sameB xs ys = true
  | [], [], _, _ => rfl
  | [], _ :: _, h, _ => by simp at h
  | _ :: _, [], h, _ => by simp at h
  | a :: xs, b :: ys, h, hp => by
    unfold sameB
    rw [hp 0 a b rfl rfl, sameB_true xs ys (by simpa using h) (fun i x y hx hy => hp (i + 1) x y (by simpa using hx) (by simpa using hy))]
    rfl
theorem sameB_false : ∀ (xs ys : List G) (i : Nat) (a b : G), xs[i]? = some a → ys[i]? = some b → sameG a b = false → sameB xs ys = false
  | [], _, i, _, _, h, _, _ => by simp at h
  | _ :: _, [], i, _, _, _, h, _ => by simp at h
  | x :: xs, y :: ys, i, a, b, h1, h2, h3 => by
    unfold sameB
    rcases i with _ | i
    · simp at h1 h2; subst h1 h2; rw [h3]; rfl
    · rw [sameB_false xs ys i a b (by simpa using h1) (by simpa using h2) h3]; simp
theorem sameB_refl (ts : List G) : sameB ts ts = true := sameB_true ts ts rfl (fun i a b ha hb => by
  rw [ha] at hb
  cases hb
  unfold sameG
  simp)
end Go.Proofs.YtofigpjabamnhaaDoor
