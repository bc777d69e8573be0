/- The walk of package lex's Join. Conditions: the tokens' texts have at most 6,000 bytes together. -/
import Derived.Test.YtofigpjabamnhaaLexJe
import Derived.Test.YtofigpjabamnhaaLexSh
import Derived.Lib.Join
namespace Go.Proofs.Ytofigpjabamnhaa
open Go.RowKit LX
set_option linter.unusedVariables false
theorem El_str : El Try.prog 52 9 1 16 := El.of (z := .string ⟨#[]⟩) Try.underlying52 (by kernel_rfl) rfl (by omega) (by omega)
def txs (ks : List G) : List ByteArray := ks.map fun g => g.2.2
def joinL (ks : List G) : List UInt8 := Lib.join ((txs ks).map (·.data.toList)) [32]
def allTok (ks : List G) : Bool := ks.all fun g => isTokB g.1 g.2.2
theorem allTok_false {ks : List G} {i : Nat} {g : G} (h : ks[i]? = some g) (hb : isTokB g.1 g.2.2 = false) : allTok ks = false := by
  unfold allTok
  cases e : ks.all fun g => isTokB g.1 g.2.2
  · rfl
  · have := List.all_eq_true.1 e g (List.mem_of_getElem? h)
    rw [hb] at this
    cases this
theorem allTok_true {ks : List G} (h : ∀ (j : Nat) (g : G), ks[j]? = some g → isTokB g.1 g.2.2 = true) : allTok ks = true := by
  unfold allTok
  rw [List.all_eq_true]
  intro g hg
  obtain ⟨j, hj, e⟩ := List.mem_iff_getElem.1 hg
  exact h j g (by rw [List.getElem?_eq_getElem hj, e])
theorem joinL_length (ks : List G) : (joinL ks).length ≤ sumG ks + ks.length := by
  unfold joinL
  induction ks with
  | nil => simp [txs, Lib.join, List.intercalate]
  | cons a r ih =>
    rcases r with _ | ⟨b, r⟩
    · simp [txs, Lib.join, List.intercalate, sumG]
    · have e : sumG (a :: b :: r) = a.2.2.size + sumG (b :: r) := by simp [sumG]
      rw [e]
      simp only [txs, List.map_cons, Lib.join, List.intercalate] at ih ⊢
      simp at ih ⊢
      omega
set_option maxHeartbeats 1000000 in
theorem Join_any (A : Option Addr) (n c : Nat) (ks : List G) (w : World) (hG : GToks w A n c ks) (hn : n ≤ 1200) (hs : sumG ks ≤ 6000) :
    Calls Try.prog 22 #[.slice A n c] w fun e w' => e = .returned (.tuple (if allTok ks = true then #[.string ⟨(joinL ks).toArray⟩, .int .i64 0] else #[.string ⟨#[]⟩, .int .i64 1])) ∧ Q w w' := by
  have hlen := hG.len
  have HG := hide hG
  have HLEN := hide hlen
  have HS := hide hs
  obtain ⟨R, hR⟩ : ∃ R, allTok ks = R := ⟨_, rfl⟩
  rw [hR]
  have HR := hide hR
  clear hG hlen hs hR
  have hni : (n : Int) ≤ 1200 := by omega
  go_enter Try.func22, Try.ntmps22
  go_wp2_with fail
  go_loopw [4, 9] (fun v vi wr => ∃ i : Nat, i ≤ n ∧ vi = .int .i64 i ∧ (∀ j g, j < i → ks[j]? = some g → isTokB g.1 g.2.2 = true) ∧ wr.ownsRow w.heap.size 9 1 v i ((txs (ks.take i)).map .string) ∧ Q w wr) (fun _ vi _ => n - (intOf vi).toNat)
  case atStart => exact ⟨0, by omega, by go_num, fun j g hj => by omega, World.ownsRow_nil _ _ _ _, Q.refl _⟩
  case round =>
    obtain ⟨i, hi, rfl, hall, hown, hq⟩ := hrel
    have HALL := hide hall
    clear hall
    have hii : (i : Int) ≤ (n : Int) := by omega
    have hsz := hq.size
    by_cases hlt : i < n
    · have hd0 : decide (i < n) = true := by simpa using hlt
      have hd1 : decide ((i : Int) < (n : Int)) = true := by simpa using hlt
      have hlti : (i : Int) < (n : Int) := by omega
      obtain ⟨b1, o1, k1, a1, t1, rfl, hb1, g1, x1, x2, x3⟩ := (HG.out.up hq).at_ i hlt
      have ht6 : t1.size ≤ 6000 := by have h1 := sumG_mem (List.mem_of_getElem? g1); have h2 := HS.out; dsimp only at h1; omega
      have hst : (txs (ks.take (i + 1))).map Value.string = (txs (ks.take i)).map Value.string ++ [.string t1] := by
        unfold txs
        rw [List.take_add_one, g1]
        simp
      have HST := hide hst
      have G1 := hide g1
      clear g1 hst
      go_wp2_with fail
      refine (isTok_any k1 a1 t1 _ ht6).mono ?_
      rintro e w3 ⟨rfl, hq3⟩
      have hwr3 : wr.heap.size < w3.heap.size := by have := hq3.size; simp at this; omega
      have z2 : w3.cell? ⟨wr.heap.size, 2, none⟩ = some (.string t1) := by rw [hq3.facts.1 _ _ (by simp)]; simp
      have hq2 : Q w w3 := (hq.alloc _).trans hq3
      have hown3 := own_q (own_q hown ((Q.refl wr).alloc _)) hq3
      have hsz2 := hq2.size
      clear hown x1 x2 x3
      cases hT : isTokB k1 t1
      · have hf := allTok_false G1.out hT
        rw [HR.out] at hf
        subst hf
        clear hT
        go_wp2_with fail
        go_ret2
        exact ⟨rfl, hq2⟩
      · have HT := hide hT
        clear hT
        go_wp2_with (at_builtin; refine wpList_app1 rfl El_str _ _ rfl rfl hown3 (by simp) rfl rfl ?_ ?_ ?_ ?_; (focus (simp [Value.oneCell'])); (focus omega); (focus omega); intro v1 w4 hown4 hb4)
        go_roundw
        case rel => exact ⟨i + 1, by omega, by go_num, fun j g hj hg => by
          by_cases e : j = i
          · subst e
            rw [G1.out] at hg
            cases hg
            exact HT.out
          · exact HALL.out j g (by omega) hg, by rw [HST.out]; exact hown4, hq2.below.trans hb4⟩
        case measure => simp [intOf] <;> omega
    · have hd0 : decide (i < n) = false := by simpa using hlt
      have hd1 : decide ((i : Int) < (n : Int)) = false := by simpa using hlt
      have e : i = n := by omega
      subst e
      have hf := allTok_true (fun j g hg => HALL.out j g (by have := (List.getElem?_eq_some_iff.1 hg).1; have := HLEN.out; omega) hg)
      rw [HR.out] at hf
      subst hf
      obtain ⟨A', c', rfl, hc1, hc2, hl, hr⟩ := own_form hown
      rw [List.take_of_length_le (by have := HLEN.out; omega)] at hr
      have hxl : (txs ks).length = i := by unfold txs; rw [List.length_map, HLEN.out]
      have hjl := joinL_length ks
      by_cases h0 : i = 0
      · subst h0
        have hks : ks = [] := List.length_eq_zero_iff.1 HLEN.out
        have hJ := hide (Try.strings_Join_none A' c' ⟨#[32]⟩ wr)
        clear hr hown
        subst hks
        go_wp2_with fail
        refine hJ.out.mono ?_
        rintro e w5 ⟨rfl, rfl⟩
        go_wp2_with fail
        go_ret2
        exact ⟨rfl, hq⟩
      · obtain ⟨bb, oo, rfl, hbb, hcell⟩ := hr.at_ (by simp [hxl]; omega)
        have hJ := Try.strings_Join bb oo c' (txs ks) ⟨#[32]⟩ wr (fun j x hx => by
          obtain ⟨hj, e⟩ := List.getElem?_eq_some_iff.1 hx
          rw [hcell j (by simpa using hj)]
          simp [e]) hbb (by omega) (by omega) (by
            have h2 := HS.out
            have h3 := HLEN.out
            unfold joinL at hjl
            show (Lib.join _ [32]).length ≤ _
            omega)
        rw [hxl] at hJ
        have HJ := hide hJ
        clear hJ hcell hr hown
        go_wp2_with fail
        refine HJ.out.mono ?_
        rintro e w5 ⟨rfl, hq5⟩
        go_wp2_with fail
        go_ret2
        exact ⟨rfl, hq.trans hq5⟩
end Go.Proofs.Ytofigpjabamnhaa
