/- A law's arguments as they come in, told as a walk wants them: slices of numbers and of bytes. Conditions: as each theorem says. -/
import Derived.Test.YtfiopjgpokdnoaaBy
import Derived.ProofKit
import Derived.ChangeSlices
import Derived.OpenShut
import Derived.SizedLaws
import Derived.WideShapes
namespace Go.Proofs.Ytfiopjgpokdnoaa.Open
open Go.ChangeShapes Go.WideShapes Go.ChangeAt Go.RowKit
section
variable {H : Type} {enc : TypeId × Value → H} {P : Program} {w : World}

theorem rd_of_cells {a : Addr} {xs : List Value} (h : ∀ i, (hi : i < xs.length) → w.cell? (a.add i) = some xs[i]) : Rd w w.heap.size (some a) xs := by
  rcases Nat.eq_zero_or_pos xs.length with h0 | h0
  · exact .inl (List.eq_nil_of_length_eq_zero h0)
  · have h1 := h 0 h0
    have hs : a.spot = none := by simpa [Addr.add] using World.cell?_spot h1
    obtain ⟨b, o, s⟩ := a
    obtain rfl : s = none := hs
    refine .inr ⟨b, o, rfl, ?_, fun j u hu => ?_⟩
    · have h2 : w.cell? ⟨b, o, none⟩ = some xs[0] := by simpa [Addr.add] using h1
      unfold World.cell? at h2
      split at h2
      · rename_i hh
        exact (Array.getElem?_eq_some_iff.1 hh).1
      · cases h2
    · obtain ⟨hj, e⟩ := List.getElem?_eq_some_iff.1 hu
      rw [← addr_add, h j hj, e]

theorem ints {t e : TypeId} {k : IntKind} {r : Reach} {b0 : Nat} {v : Value} {d : DataW H} {ps : List MemPlace} (ht : P.underlying t = some (.slice e)) (he : P.underlying e = some (.int k)) (hc : P.cellsOf e = 1)
    (hval : Value.okWide P w r b0 t v) (hd : DataW.Trod enc P w 0 (fun _ => true) true t v d ps) :
    ∃ (A : Option Addr) (n c : Nat) (zs : List Int), v = .slice A n c ∧ (A = none → n = 0 ∧ c = 0) ∧ zs.length = n ∧ n ≤ c ∧ c ≤ maxLen ∧ Rd w w.heap.size A (zs.map (Value.int k)) ∧ (∀ z ∈ zs, (Lit.int k z).wf = true) ∧
      (c = 0 ∨ ∃ es sp, d = .slice es sp ∧ es.length + sp.length = c) := by
  obtain ⟨A, n, c, rfl⟩ := okWide_slice ht hval
  obtain ⟨fuel, hf⟩ := hd
  rcases open_ints ht he hc hf with ⟨h1, h2⟩ | ⟨a, len, cap, zs, h1, _, hl, hm, hz, hx, hcell, hwf⟩
  · simp [Value.cells] at h1
    obtain ⟨rfl, rfl, rfl⟩ := h1
    exact ⟨none, 0, 0, [], rfl, fun _ => ⟨rfl, rfl⟩, rfl, Nat.le_refl _, Nat.zero_le _, .inl rfl, by simp, .inl rfl⟩
  · simp [Value.cells] at h1
    obtain ⟨rfl, rfl, rfl⟩ := h1
    simp only [if_true] at hz
    have hlt : (zs.take n).length = n := by simp; omega
    refine ⟨some a, n, c, zs.take n, rfl, fun h => (by cases h), hlt, hl, hm, rd_of_cells ?_, fun z hz => hwf z (List.mem_of_mem_take hz), .inr ⟨_, _, (Prod.ext_iff.1 hx).1, by simp [lits]; omega⟩⟩
    intro i hi
    have hi' : i < n := by rw [List.length_map, hlt] at hi; exact hi
    rw [hcell i (by omega)]
    simp [List.getD, List.getElem?_eq_getElem (show i < zs.length by omega)]

theorem cap_le {ts : List TypeId} {ds : List (DataW H)} (hs : (DataW.weightsEach P ts ds).all (· ≤ reachBytes) = true) {j : Nat} {t e : TypeId} {d : DataW H} {c : Nat} (ht : ts[j]? = some t) (hd : ds[j]? = some d)
    (hu : P.underlying t = some (.slice e)) (h : c = 0 ∨ ∃ es sp, d = .slice es sp ∧ es.length + sp.length = c) : c * P.bytesOf e ≤ 140737488351232 := by
  rcases h with rfl | ⟨es, sp, rfl, rfl⟩
  · simp
  · exact sized_slice hs ht hd hu

theorem bytes {t e : TypeId} {r : Reach} {b0 : Nat} {v : Value} {d : DataW H} {ps : List MemPlace} (ht : P.underlying t = some (.slice e)) (he : P.underlying e = some (.int .u8)) (hc : P.cellsOf e = 1) (hb : P.bytesOf e = 1)
    (hval : Value.okWide P w r b0 t v) (hd : DataW.Trod enc P w 0 (fun _ => true) true t v d ps) {ts : List TypeId} {ds : List (DataW H)} (hs : (DataW.weightsEach P ts ds).all (· ≤ reachBytes) = true) {j : Nat} (htj : ts[j]? = some t) (hdj : ds[j]? = some d) :
    ∃ (A : Option Addr) (n c : Nat) (bs : List Nat), v = .slice A n c ∧ Bytes w A n c bs ∧ (A = none → n = 0 ∧ c = 0) := by
  obtain ⟨A, n, c, zs, rfl, hN, hl, hn, _, hr, hwf, hcap⟩ := ints ht he hc hval hd
  have hcl := cap_le hs htj hdj ht hcap
  rw [hb] at hcl
  have hz : ∀ z ∈ zs, 0 ≤ z ∧ z < 256 := fun z hz => by
    have h := hwf z hz
    simp [Lit.wf, IntKind.min, IntKind.max, IntKind.bits, IntKind.signed] at h
    omega
  refine ⟨A, n, c, zs.map Int.toNat, rfl, ⟨?_, by simpa using hl, fun b hb => ?_, hn, by omega⟩, hN⟩
  · have : (zs.map Int.toNat).map byteV = zs.map (Value.int .u8) := by
      rw [List.map_map]
      refine List.map_congr_left fun z hz' => ?_
      have := hz z hz'
      show Value.int .u8 ((z.toNat : Nat) : Int) = .int .u8 z
      rw [Int.toNat_of_nonneg this.1]
    rw [this]
    exact hr
  · simp only [List.mem_map] at hb
    obtain ⟨z, hz', rfl⟩ := hb
    have := hz z hz'
    omega
end
end Go.Proofs.Ytfiopjgpokdnoaa.Open
