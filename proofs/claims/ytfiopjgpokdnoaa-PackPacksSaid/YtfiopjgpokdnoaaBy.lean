/- Slices of bytes that read as lists of numbers below 256. Conditions: as each theorem says. -/
import Derived.Test.YtfiopjgpokdnoaaMem
import Derived.Laws.IdiomStrings
import Derived.Lib.BufferRead
namespace Go.Proofs.Ytfiopjgpokdnoaa
open Go.RowKit
set_option linter.unusedVariables false
def byteV (b : Nat) : Value := .int .u8 (b : Int)
/-- a slice of bytes, as a walk is told of it -/
structure Bytes (w : World) (A : Option Addr) (n c : Nat) (bs : List Nat) : Prop where
  rd : Rd w w.heap.size A (bs.map byteV)
  len : bs.length = n
  small : ∀ b ∈ bs, b < 256
  cap : n ≤ c
  most : c ≤ 9223372036854775807
theorem Bytes.up {w w' : World} {A : Option Addr} {n c : Nat} {bs : List Nat} (h : Bytes w A n c bs) (hq : Q w w') : Bytes w' A n c bs := ⟨h.rd.up hq, h.len, h.small, h.cap, h.most⟩
theorem rd_byte {w : World} {B : Nat} {A : Option Addr} {bs : List Nat} (hr : Rd w B A (bs.map byteV)) (hs : ∀ b ∈ bs, b < 256) (k : Nat) (hk : k < bs.length) :
    ∃ bb o v, A = some ⟨bb, o, none⟩ ∧ bb < B ∧ w.cell? ⟨bb, o + k, none⟩ = some (.int .u8 (v : Nat)) ∧ v < 256 ∧ bs[k]? = some v ∧ bs.take (k + 1) = bs.take k ++ [v] := by
  obtain ⟨bb, o, e, hlt, hc⟩ := hr.at_ (by simp; omega)
  exact ⟨bb, o, bs[k], e, hlt, by rw [hc k (by simpa using hk)]; simp [byteV], hs _ (List.getElem_mem _), List.getElem?_eq_getElem hk, by rw [List.take_succ_eq_append_getElem hk]⟩
def strN (bs : List Nat) : ByteArray := ⟨(bs.map UInt8.ofNat).toArray⟩
theorem conv_rd {P : Program} {src dst e : TypeId} (hs : P.underlying src = some (.slice e)) (he : P.underlying e = some (.int .u8)) (hd : P.underlying dst = some .string)
    {w : World} {B : Nat} {A : Option Addr} {bs : List Nat} (h : Rd w B A (bs.map byteV)) (hb : ∀ b ∈ bs, b < 256) (n c : Nat) (hn : bs.length = n) :
    (convert src dst (.slice A n c)).run P w = .ok (.string (strN bs)) w := by
  subst hn
  rcases Nat.eq_zero_or_pos bs.length with h0 | h0
  · have : bs = [] := List.eq_nil_of_length_eq_zero h0
    subst this
    rcases A with _ | a
    · exact Lib.run_convert_nil_bytes w src dst e c hs he hd
    · have := run_convert_bytes_back w src dst e a c [] hs he hd (fun j hj => by simp at hj)
      exact this
  · obtain ⟨b, o, rfl, h2, h3⟩ := h.at_ (by simpa using h0)
    have := run_convert_bytes_back w src dst e ⟨b, o, none⟩ c (bs.map UInt8.ofNat) hs he hd (fun j hj => by
      simp at hj
      rw [addr_add, h3 j (by simpa using hj)]
      have := hb bs[j] (List.getElem_mem _)
      simp [byteV]
      omega)
    simpa [strN] using this
theorem bytes_lit (w : World) (bs : List Nat) (e : TypeId) (fr : Nat × Nat) (C : Array Value) (n k : Nat) (hk : k = w.heap.size) (hC : C = (bs.map byteV).toArray) (hn : bs.length = n) (hs : ∀ b ∈ bs, b < 256) (hm : n ≤ 9223372036854775807) :
    Bytes (w.alloc (.cells C e fr)) (some ⟨k, 0, none⟩) n n bs := by
  subst hC hn hk
  refine ⟨.inr ⟨w.heap.size, 0, rfl, by simp, fun j u hu => ?_⟩, rfl, hs, Nat.le_refl _, hm⟩
  rw [Nat.zero_add, World.cell?_alloc_mark]
  simpa using hu
end Go.Proofs.Ytfiopjgpokdnoaa
