/- The walks of At's closure and of slices.IndexFunc at it. Conditions: the tokens lie in a text that is not immense. -/
import Derived.Test.YtofigpjabamnhaaLexWh
import Derived.Test.YtofigpjabamnhaaLexH
namespace Go.Proofs.Ytofigpjabamnhaa
open Go.RowKit LX
set_option linter.unusedVariables false
/-- the place lies in the token -/
def inG (p : Int) (g : G) : Bool := decide (g.2.1 ≤ p) && decide (p < g.2.1 + (g.2.2.size : Int))
theorem find_hit : ∀ (ks : List G) (p : Int) (i : Nat) (g : G), ks[i]? = some g → inG p g = true → (∀ j a, j < i → ks[j]? = some a → inG p a = false) → ks.find? (inG p) = some g
  | [], _, i, g, h, _, _ => by simp at h
  | k :: ks, p, 0, g, h, hg, _ => by
    simp at h
    subst h
    rw [List.find?_cons, hg]
  | k :: ks, p, i + 1, g, h, hg, hb => by
    rw [List.find?_cons, hb 0 k (by omega) rfl]
    exact find_hit ks p i g (by simpa using h) hg (fun j a hj ha => hb (j + 1) a (by omega) (by simpa using ha))
theorem find_miss (ks : List G) (p : Int) (hb : ∀ j a, j < ks.length → ks[j]? = some a → inG p a = false) : ks.find? (inG p) = none := by
  rw [List.find?_eq_none]
  intro x hx
  obtain ⟨j, hj, e⟩ := List.mem_iff_getElem.1 hx
  have := hb j x hj (by rw [List.getElem?_eq_getElem hj, e])
  simp [this]
theorem at1_any (p : Int) (k a : Int) (t : ByteArray) (R : Nat) (w : World) (ha1 : 0 ≤ a) (ha2 : a ≤ 6000) (ha3 : t.size ≤ 6000) (hR : R < w.heap.size) (hc : w.cell? ⟨R, 0, none⟩ = some (.int .i64 p)) :
    Calls Try.prog 38 #[.agg #[.int .i64 k, .int .i64 a, .string t], .pointer (some ⟨R, 0, none⟩)] w fun e w' => e = .returned (.bool (inG p (k, a, t))) ∧ Q w w' := by
  unfold inG
  dsimp only
  have ha4 : (t.size : Int) ≤ 6000 := by omega
  have hc2 : (w.alloc (.cells #[.int .i64 k, .int .i64 a, .string t] 38)).cell? ⟨R, 0, none⟩ = some (.int .i64 p) := by rw [((Q.refl w).alloc _).facts.1 _ _ hR]; exact hc
  cases h1 : decide (a ≤ p)
  · go_enter Try.func38, Try.ntmps38
    go_wp2_with fail
    go_ret
    exact ⟨by simp, (Q.refl w).alloc _⟩
  · cases h2 : decide (p < a + (t.size : Int))
    · go_enter Try.func38, Try.ntmps38
      go_wp2_with fail
      go_ret
      exact ⟨by simp, (Q.refl w).alloc _⟩
    · go_enter Try.func38, Try.ntmps38
      go_wp2_with fail
      go_ret
      exact ⟨by simp, (Q.refl w).alloc _⟩
def IdxPost (w : World) (ks : List G) (p : Int) (e : Ending) (w' : World) : Prop :=
  ((∃ (i : Nat) (g : G), i < ks.length ∧ ks[i]? = some g ∧ ks.find? (inG p) = some g ∧ e = .returned (.int .i64 (i : Nat))) ∨ (ks.find? (inG p) = none ∧ e = .returned (.int .i64 (-1)))) ∧ Q w w'
set_option maxHeartbeats 1000000 in
theorem indexFunc_any (A : Option Addr) (n c : Nat) (ks : List G) (p : Int) (R : Nat) (w : World) (hG : GToks w A n c ks) (hn : n ≤ 1000) (hb : ∀ g ∈ ks, 0 ≤ g.2.1 ∧ g.2.1 ≤ 6000 ∧ g.2.2.size ≤ 6000) (hR : R < w.heap.size) (hc : w.cell? ⟨R, 0, none⟩ = some (.int .i64 p)) :
    Calls Try.prog 37 #[.slice A n c, .func (.func 38) #[] #[.pointer (some ⟨R, 0, none⟩)]] w (IdxPost w ks p) := by
  have hlen := hG.len
  have HG := hide hG
  have HBD := hide hb
  have HLEN := hide hlen
  have HC := hide hc
  clear hG hb hlen hc
  have hni : (n : Int) ≤ 1000 := by omega
  go_enter Try.func37, Try.ntmps37
  go_wp2_with fail
  go_loopw [8] (fun v wr => ∃ i : Nat, i ≤ n ∧ v = .int .i64 i ∧ (∀ j a, j < i → ks[j]? = some a → inG p a = false) ∧ Q w wr) (fun v _ => n - (intOf v).toNat)
  case atStart => exact ⟨0, by omega, by go_num, fun j a hj => by omega, Q.refl _⟩
  case round =>
    obtain ⟨i, hi, rfl, hall, hq⟩ := hrel
    have HALL := hide hall
    clear hall
    have hii : (i : Int) ≤ (n : Int) := by omega
    have hsz := hq.size
    by_cases hlt : i < n
    · have hd0 : decide (i < n) = true := by simpa using hlt
      have hd1 : decide ((i : Int) < (n : Int)) = true := by simpa using hlt
      have hlti : (i : Int) < (n : Int) := by omega
      obtain ⟨b1, o1, k1, a1, t1, rfl, hb1, g1, x1, x2, x3⟩ := (HG.out.up hq).at_ i hlt
      have hbd := HBD.out _ (List.mem_of_getElem? g1)
      dsimp only at hbd
      obtain ⟨ha1, ha2, ha3⟩ := hbd
      have G1 := hide g1
      clear g1
      go_wp2_with fail
      refine (at1_any p k1 a1 t1 R _ ha1 ha2 ha3 (by omega) (by rw [hq.facts.1 _ _ hR]; exact HC.out)).mono ?_
      rintro e w3 ⟨rfl, hq3⟩
      have hq2 : Q w w3 := hq.trans hq3
      cases hs : inG p (k1, a1, t1)
      · have HS := hide hs
        clear hs x1 x2 x3
        go_wp2_with fail
        go_roundw
        case rel => exact ⟨i + 1, by omega, by go_num, fun j a hj ha => by
          by_cases e : j = i
          · subst e
            rw [G1.out] at ha
            cases ha
            exact HS.out
          · exact HALL.out j a (by omega) ha, hq2⟩
        case measure => simp [intOf] <;> omega
      · have hf := find_hit ks p i _ G1.out hs HALL.out
        have HF := hide hf
        clear hf hs x1 x2 x3
        go_wp2_with fail
        go_ret
        exact ⟨.inl ⟨i, _, by have := HLEN.out; omega, G1.out, HF.out, rfl⟩, hq2⟩
    · have hd0 : decide (i < n) = false := by simpa using hlt
      have hd1 : decide ((i : Int) < (n : Int)) = false := by simpa using hlt
      have hf := find_miss ks p (fun j a hj ha => HALL.out j a (by have := HLEN.out; omega) ha)
      have HF := hide hf
      clear hf
      go_wp2_with fail
      go_ret
      exact ⟨.inr ⟨HF.out, rfl⟩, hq⟩
end Go.Proofs.Ytofigpjabamnhaa
