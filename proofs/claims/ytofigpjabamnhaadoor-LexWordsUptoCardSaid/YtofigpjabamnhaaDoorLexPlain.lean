/- The tokens of a text in plain Lean, on lists of bytes as numbers. Conditions: none. -/
import Derived.KernelRfl
import Derived.WalkKit
import Derived.Lib.Strings
namespace Go.Proofs.YtofigpjabamnhaaDoor.LX
/-- a string's bytes -/
def nat (s : ByteArray) : List Nat := s.data.toList.map UInt8.toNat
theorem nat_length (s : ByteArray) : (nat s).length = s.size := by simp [nat]
theorem nat_small (s : ByteArray) : ∀ c ∈ nat s, c < 256 := by
  intro c hc
  simp only [nat, List.mem_map] at hc
  obtain ⟨u, _, rfl⟩ := hc
  exact u.toNat_lt
theorem nat_get (s : ByteArray) (k : Nat) (h : k < s.size) : (nat s)[k]? = some s[k].toNat := by
  unfold nat
  rw [List.getElem?_map, List.getElem?_eq_getElem (by simpa using h)]
  rfl
theorem nat_inj {a b : ByteArray} (h : nat a = nat b) : a = b := by
  unfold nat at h
  have := List.map_inj_right (f := UInt8.toNat) (fun x y e => UInt8.toNat_inj.1 e) |>.1 h
  obtain ⟨⟨x⟩⟩ := a
  obtain ⟨⟨y⟩⟩ := b
  simp at this
  subst this
  rfl
theorem nat_extract (s : ByteArray) (a b : Nat) : nat (s.extract a b) = ((nat s).drop a).take (b - a) := by
  unfold nat
  rw [Lib.extract_data, List.map_take, List.map_drop]
/-- what a byte is: 1 blank, 2 letter, 3 digit -/
def clsN (n : Nat) : Nat := if n = 32 ∨ n = 10 then 1 else if (97 ≤ n ∧ n ≤ 122) ∨ (65 ≤ n ∧ n ≤ 90) ∨ n = 95 then 2 else if 48 ≤ n ∧ n ≤ 57 then 3 else 0
theorem clsN_le (n : Nat) : clsN n ≤ 3 := by unfold clsN; split <;> (try split) <;> (try split) <;> omega
/-- how many letters and digits a list begins with -/
def runL : List Nat → Nat
  | [] => 0
  | c :: r => if 2 ≤ clsN c then runL r + 1 else 0
theorem runL_le : ∀ l, runL l ≤ l.length
  | [] => Nat.le_refl _
  | c :: r => by have := runL_le r; unfold runL; split <;> simp <;> omega
def signsL : List (List Nat) := [[61, 61], [33, 61], [60, 61], [62, 61], [43, 37], [43, 124], [45, 37], [45, 124], [42, 37], [46, 46], [46, 63], [61, 62], [40], [41], [123], [125], [44], [59], [58], [61], [33], [60], [62], [43], [45], [42], [47], [37], [38], [124], [94], [63], [46]]
def isSgn (l : List Nat) : Bool := signsL.contains l
/-- the kind and the length of the token that begins a list; length 0: none -/
def firstL (l : List Nat) : Nat × Nat :=
  match l with
  | [] => (0, 0)
  | c :: r =>
    if clsN c = 2 then (0, runL l) else if clsN c = 3 then (1, runL l)
    else if c = 64 ∧ 0 < r.length ∧ clsN (r.getD 0 0) = 2 then (3, 1 + runL r)
    else if 2 ≤ l.length ∧ isSgn (l.take 2) = true then (2, 2)
    else if isSgn (l.take 1) = true then (2, 1)
    else (0, 0)
theorem runL_pos {c : Nat} (r : List Nat) (h : 2 ≤ clsN c) : 1 ≤ runL (c :: r) := by unfold runL; rw [if_pos h]; omega
theorem firstL_le (l : List Nat) : (firstL l).2 ≤ l.length := by
  unfold firstL
  split
  · simp
  · rename_i c r
    have h1 := runL_le (c :: r)
    have h2 := runL_le r
    split
    · exact h1
    · split
      · exact h1
      · split
        · simp; omega
        · split
          · rename_i h; simpa using h.1
          · split
            · simp
            · simp
theorem firstL_kind (l : List Nat) : (firstL l).1 ≤ 3 := by
  unfold firstL
  split
  · simp
  · split
    · simp
    · split
      · simp
      · split
        · simp
        · split
          · simp
          · split <;> simp
abbrev Tok := Nat × Nat × Nat
/-- the tokens of a list that stands from a place on, and the place at which none begins -/
def toks : Nat → List Nat → Nat → List Tok × Option Nat
  | 0, _, _ => ([], none)
  | f + 1, l, p =>
    if l.length = 0 then ([], none) else if clsN (l.getD 0 0) = 1 then toks f (l.drop 1) (p + 1)
    else if (firstL l).2 = 0 then ([], some p)
    else (((firstL l).1, p, (firstL l).2) :: (toks f (l.drop (firstL l).2) (p + (firstL l).2)).1, (toks f (l.drop (firstL l).2) (p + (firstL l).2)).2)
def toksF (l : List Nat) : List Tok × Option Nat := toks (l.length + 1) l 0
theorem toks_end {f : Nat} {l : List Nat} {p : Nat} (h : l.length = 0) : toks f l p = ([], none) := by
  cases f with
  | zero => rfl
  | succ f => rw [toks, if_pos h]
theorem toks_blank {f : Nat} {l : List Nat} {p : Nat} (hf : l.length < f) (h : 0 < l.length) (hb : clsN (l.getD 0 0) = 1) : toks f l p = toks (f - 1) (l.drop 1) (p + 1) := by
  obtain ⟨f, rfl⟩ : ∃ g, f = g + 1 := ⟨f - 1, by omega⟩
  rw [toks, if_neg (by omega), if_pos hb]
  rfl
theorem toks_none {f : Nat} {l : List Nat} {p : Nat} (hf : l.length < f) (h : 0 < l.length) (hb : clsN (l.getD 0 0) ≠ 1) (hn : (firstL l).2 = 0) : toks f l p = ([], some p) := by
  obtain ⟨f, rfl⟩ : ∃ g, f = g + 1 := ⟨f - 1, by omega⟩
  rw [toks, if_neg (by omega), if_neg hb, if_pos hn]
theorem toks_tok {f : Nat} {l : List Nat} {p : Nat} (hf : l.length < f) (h : 0 < l.length) (hb : clsN (l.getD 0 0) ≠ 1) (hn : (firstL l).2 ≠ 0) :
    toks f l p = (((firstL l).1, p, (firstL l).2) :: (toks (f - 1) (l.drop (firstL l).2) (p + (firstL l).2)).1, (toks (f - 1) (l.drop (firstL l).2) (p + (firstL l).2)).2) := by
  obtain ⟨f, rfl⟩ : ∃ g, f = g + 1 := ⟨f - 1, by omega⟩
  rw [toks, if_neg (by omega), if_neg hb, if_neg hn]
  rfl
theorem toks_length : ∀ (f : Nat) (l : List Nat) (p : Nat), (toks f l p).1.length ≤ l.length
  | 0, l, p => by simp [toks]
  | f + 1, l, p => by
    rw [toks]
    split
    · simp
    · split
      · have := toks_length f (l.drop 1) (p + 1); rw [List.length_drop] at this; omega
      · split
        · simp
        · have := toks_length f (l.drop (firstL l).2) (p + (firstL l).2)
          simp at this
          have h2 := firstL_le l
          simp
          omega
/-- the tokens, their number or place, the error -/
def lexF (l : List Nat) : List Tok × Nat × Nat :=
  if 4000 < l.length then ([], 0, 3) else match toksF l with
  | (_, some p) => ([], p, 2)
  | (ts, none) => if 1000 < ts.length then ([], 0, 3) else (ts, ts.length, 0)
/-- a token's cells -/
def tcells (s : ByteArray) (t : Tok) : List Value := [.int .i64 (t.1 : Int), .int .i64 (t.2.1 : Int), .string (s.extract t.2.1 (t.2.1 + t.2.2))]
def tflat (s : ByteArray) (ts : List Tok) : List Value := ts.flatMap (tcells s)
theorem tflat_append (s : ByteArray) (a b : List Tok) : tflat s (a ++ b) = tflat s a ++ tflat s b := by simp [tflat]
theorem tflat_length (s : ByteArray) (ts : List Tok) : (tflat s ts).length = ts.length * 3 := by
  induction ts with
  | nil => rfl
  | cons t ts ih =>
    have : tflat s (t :: ts) = tcells s t ++ tflat s ts := rfl
    rw [this, List.length_append, ih]
    simp [tcells]
    omega
theorem tflat_get (s : ByteArray) (ts : List Tok) (i k a n : Nat) (h : ts[i]? = some (k, a, n)) :
    (tflat s ts)[i * 3]? = some (.int .i64 (k : Int)) ∧ (tflat s ts)[i * 3 + 1]? = some (.int .i64 (a : Int)) ∧ (tflat s ts)[i * 3 + 2]? = some (.string (s.extract a (a + n))) := by
  induction ts generalizing i with
  | nil => simp at h
  | cons t ts ih =>
    have e : tflat s (t :: ts) = tcells s t ++ tflat s ts := rfl
    rcases i with _ | i
    · simp at h
      subst h
      exact ⟨rfl, rfl, rfl⟩
    · have := ih i (by simpa using h)
      have hl : (tcells s t).length = 3 := rfl
      rw [e, List.getElem?_append_right (by rw [hl]; omega), List.getElem?_append_right (by rw [hl]; omega), List.getElem?_append_right (by rw [hl]; omega), hl]
      rw [show (i + 1) * 3 - 3 = i * 3 by omega, show (i + 1) * 3 + 1 - 3 = i * 3 + 1 by omega, show (i + 1) * 3 + 2 - 3 = i * 3 + 2 by omega]
      exact this
end Go.Proofs.YtofigpjabamnhaaDoor.LX
