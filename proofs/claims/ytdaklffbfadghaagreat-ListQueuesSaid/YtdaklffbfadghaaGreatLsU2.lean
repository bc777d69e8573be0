/- Rows in an order of which the least one is first: plain. No program. A queue's rows against the document's queue, in the order in which they were pushed: plain. No program. What growing, putting in and taking out come to: plain. No program. Conditions: as each theorem says. -/
import Derived.Test.YtdaklffbfadghaaGreatLsU1
namespace Go.Proofs.YtdaklffbfadghaaGreat
open Go.RowKit HP
set_option linter.unusedVariables false
set_option linter.unusedSimpArgs false
/-- a row is taken out before another one: its number is less, or it was pushed before -/
def bf (a b : List Int) : Bool := decide (a.getD 0 0 < b.getD 0 0) || (decide (a.getD 0 0 = b.getD 0 0) && decide (a.getD 2 0 < b.getD 2 0))
def le (a b : List Int) : Prop := bf b a = false
theorem bf_iff {a b : List Int} : bf a b = true ↔ a.getD 0 0 < b.getD 0 0 ∨ (a.getD 0 0 = b.getD 0 0 ∧ a.getD 2 0 < b.getD 2 0) := by
  unfold bf
  rw [Bool.or_eq_true, Bool.and_eq_true, decide_eq_true_eq, decide_eq_true_eq, decide_eq_true_eq]
theorem le_iff {a b : List Int} : le a b ↔ a.getD 0 0 < b.getD 0 0 ∨ (a.getD 0 0 = b.getD 0 0 ∧ a.getD 2 0 ≤ b.getD 2 0) := by
  unfold le
  rw [← Bool.not_eq_true, bf_iff]
  omega
theorem le_trans {a b c : List Int} (h : le a b) (k : le b c) : le a c := by
  rw [le_iff] at *
  omega
theorem le_rfl (a : List Int) : le a a := by
  rw [le_iff]
  omega
theorem le_of_bf {a b : List Int} (h : bf a b = true) : le a b := by
  rw [le_iff]
  rw [bf_iff] at h
  omega
/-- row j -/
def rw_ (L : List (List Int)) (j : Nat) : List Int := L.getD j []
theorem rw_get {L : List (List Int)} {j : Nat} {r : List Int} (h : L[j]? = some r) : rw_ L j = r := by
  unfold rw_
  rw [List.getD_eq_getElem?_getD, h]
  rfl
theorem get_rw {L : List (List Int)} {j : Nat} (h : j < L.length) : L[j]? = some (rw_ L j) := by
  unfold rw_
  rw [List.getD_eq_getElem?_getD, List.getElem?_eq_getElem h]
  rfl
def par (j : Nat) : Nat := (j - 1) / 2
/-- in order: no row is before the one above it -/
def Ord (L : List (List Int)) : Prop := ∀ j, 0 < j → j < L.length → le (rw_ L (par j)) (rw_ L j)
theorem Ord.nil : Ord [] := fun j _ h => by simp at h
theorem Ord.root {L : List (List Int)} (h : Ord L) : ∀ (n j : Nat), j ≤ n → j < L.length → le (rw_ L 0) (rw_ L j)
  | n, 0, _, _ => le_rfl _
  | n + 1, j + 1, hn, hj => by
    have hp : par (j + 1) ≤ n := by unfold par; omega
    exact le_trans (h.root n (par (j + 1)) hp (by unfold par; omega)) (h (j + 1) (by omega) hj)
/-- two rows changed over -/
def swp (L : List (List Int)) (i k : Nat) : List (List Int) := (L.set i (rw_ L k)).set k (rw_ L i)
theorem swp_len (L : List (List Int)) (i k : Nat) : (swp L i k).length = L.length := by unfold swp; simp
theorem swp_rw {L : List (List Int)} {i k : Nat} (hi : i < L.length) (hk : k < L.length) (hne : i ≠ k) (j : Nat) : rw_ (swp L i k) j = if j = k then rw_ L i else if j = i then rw_ L k else rw_ L j := by
  unfold swp
  conv => lhs; unfold rw_
  rw [List.getD_eq_getElem?_getD, List.getElem?_set, List.getElem?_set, List.length_set]
  by_cases h1 : j = k
  · subst h1
    rw [if_pos rfl, if_pos hk, if_pos rfl]
    rfl
  · rw [if_neg (fun e => h1 e.symm), if_neg h1]
    by_cases h2 : j = i
    · subst h2
      rw [if_pos rfl, if_pos hi, if_pos rfl]
      rfl
    · rw [if_neg (fun e => h2 e.symm), if_neg h2, ← List.getD_eq_getElem?_getD]
      rfl
theorem swp_perm {L : List (List Int)} {i k : Nat} (hi : i < L.length) (hk : k < L.length) : (swp L i k).Perm L := by
  have h := Array.swap_perm (xs := L.toArray) (i := i) (j := k) (by simpa using hi) (by simpa using hk)
  have h2 := h.toList
  rw [Array.toList_swap] at h2
  have e1 : rw_ L i = L[i] := rw_get (List.getElem?_eq_getElem hi)
  have e2 : rw_ L k = L[k] := rw_get (List.getElem?_eq_getElem hk)
  unfold swp
  rw [e1, e2]
  simpa using h2
/-! a row goes up -/
structure UpI (L : List (List Int)) (i : Nat) : Prop where
  lt : i < L.length
  but : ∀ j, 0 < j → j < L.length → j ≠ i → le (rw_ L (par j)) (rw_ L j)
  skip : 0 < i → ∀ c, 0 < c → c < L.length → par c = i → le (rw_ L (par i)) (rw_ L c)
theorem UpI.top {L : List (List Int)} (h : UpI L 0) : Ord L := fun j h0 hj => h.but j h0 hj (by omega)
theorem UpI.stop {L : List (List Int)} {i : Nat} (h : UpI L i) (hb : bf (rw_ L i) (rw_ L (par i)) = false) : Ord L := fun j h0 hj => by
  by_cases e : j = i
  · subst e; exact hb
  · exact h.but j h0 hj e
theorem UpI.step {L : List (List Int)} {i : Nat} (h : UpI L i) (h0 : 0 < i) (hb : bf (rw_ L i) (rw_ L (par i)) = true) : UpI (swp L i (par i)) (par i) := by
  have hi := h.lt
  have hpl : par i < i := by unfold par; omega
  have hrw := swp_rw (L := L) hi (show par i < L.length by omega) (by omega)
  have hle := le_of_bf hb
  refine ⟨by rw [swp_len]; omega, fun j hj0 hj hne => ?_, fun hp0 c hc0 hc hpc => ?_⟩
  · rw [swp_len] at hj
    have hpj : par j < j := by unfold par; omega
    rw [hrw, hrw, if_neg hne]
    by_cases e1 : j = i
    · subst e1
      rw [if_pos rfl, if_pos rfl]
      exact hle
    · rw [if_neg e1]
      by_cases e2 : par j = par i
      · rw [if_pos e2]
        have := h.but j hj0 hj e1
        rw [e2] at this
        exact le_trans hle this
      · rw [if_neg e2]
        by_cases e3 : par j = i
        · rw [if_pos e3]
          exact h.skip h0 j hj0 hj e3
        · rw [if_neg e3]
          exact h.but j hj0 hj e1
  · rw [swp_len] at hc
    have hpc2 : par c < c := by unfold par; omega
    have hpp : par (par i) < par i := by unfold par at *; omega
    rw [hrw, hrw, if_neg (show par (par i) ≠ par i by omega), if_neg (show par (par i) ≠ i by omega), if_neg (show c ≠ par i by omega)]
    have hu := h.but (par i) hp0 (by omega) (by omega)
    by_cases e1 : c = i
    · rw [if_pos e1]
      exact hu
    · rw [if_neg e1]
      have := h.but c hc0 hc e1
      rw [hpc] at this
      exact le_trans hu this
/-- a row laid at the end -/
theorem UpI.start {L : List (List Int)} (h : Ord L) (r : List Int) : UpI (L ++ [r]) L.length := by
  have hr : ∀ j, j < L.length → rw_ (L ++ [r]) j = rw_ L j := fun j hj => by
    unfold rw_
    rw [List.getD_eq_getElem?_getD, List.getElem?_append_left hj, ← List.getD_eq_getElem?_getD]
  refine ⟨by simp, fun j h0 hj hne => ?_, fun _ c h0 hc hp => ?_⟩
  · rw [List.length_append, List.length_singleton] at hj
    have hpj : par j < j := by unfold par; omega
    rw [hr _ (by omega), hr _ (by omega)]
    exact h j h0 (by omega)
  · rw [List.length_append, List.length_singleton] at hc
    have hpc : par c < c := by unfold par; omega
    omega
/-! a row goes down -/
structure DnI (L : List (List Int)) (i : Nat) : Prop where
  but : ∀ j, 0 < j → j < L.length → par j ≠ i → le (rw_ L (par j)) (rw_ L j)
  skip : 0 < i → ∀ c, 0 < c → c < L.length → par c = i → le (rw_ L (par i)) (rw_ L c)
theorem DnI.leaf {L : List (List Int)} {i : Nat} (h : DnI L i) (hn : L.length ≤ 2 * i + 1) : Ord L := fun j h0 hj => h.but j h0 hj (by unfold par; omega)
/-- k is the lesser one of the two below i -/
def Lesser (L : List (List Int)) (i k : Nat) : Prop := 0 < k ∧ par k = i ∧ k < L.length ∧ ∀ c, 0 < c → c < L.length → par c = i → le (rw_ L k) (rw_ L c)
theorem lesser_of {L : List (List Int)} {i : Nat} (h : 2 * i + 1 < L.length) : Lesser L i (if 2 * i + 2 < L.length ∧ bf (rw_ L (2 * i + 2)) (rw_ L (2 * i + 1)) = true then 2 * i + 2 else 2 * i + 1) := by
  split
  · rename_i hc
    refine ⟨by omega, by unfold par; omega, hc.1, fun c h0 hc2 hp => ?_⟩
    have : c = 2 * i + 1 ∨ c = 2 * i + 2 := by unfold par at hp; omega
    rcases this with rfl | rfl
    · exact le_of_bf hc.2
    · exact le_rfl _
  · rename_i hc
    refine ⟨by omega, by unfold par; omega, h, fun c h0 hc2 hp => ?_⟩
    have : c = 2 * i + 1 ∨ c = 2 * i + 2 := by unfold par at hp; omega
    rcases this with rfl | rfl
    · exact le_rfl _
    · unfold le
      rw [← Bool.not_eq_true]
      exact fun e => hc ⟨hc2, e⟩
theorem DnI.stop {L : List (List Int)} {i k : Nat} (h : DnI L i) (hk : Lesser L i k) (hb : bf (rw_ L k) (rw_ L i) = false) : Ord L := fun j h0 hj => by
  by_cases e : par j = i
  · rw [e]
    exact le_trans (show le (rw_ L i) (rw_ L k) from hb) (hk.2.2.2 j h0 hj e)
  · exact h.but j h0 hj e
theorem DnI.step {L : List (List Int)} {i k : Nat} (h : DnI L i) (hk : Lesser L i k) (hb : bf (rw_ L k) (rw_ L i) = true) : DnI (swp L k i) k := by
  obtain ⟨hk0, hkp, hkl, hkm⟩ := hk
  have hik : i < k := by rw [← hkp]; unfold par; omega
  have hrw := swp_rw (L := L) hkl (show i < L.length by omega) (by omega)
  have hle := le_of_bf hb
  refine ⟨fun j h0 hj hne => ?_, fun _ c h0 hc hp => ?_⟩
  · rw [swp_len] at hj
    have hpj : par j < j := by unfold par; omega
    rw [hrw, hrw]
    by_cases e1 : par j = i
    · rw [if_pos e1]
      have hji : j ≠ i := by omega
      rw [if_neg hji]
      by_cases e2 : j = k
      · rw [if_pos e2]; exact hle
      · rw [if_neg e2]; exact hkm j h0 hj e1
    · rw [if_neg e1, if_neg hne]
      have hjk : j ≠ k := fun e => e1 (by rw [e]; exact hkp)
      by_cases e2 : j = i
      · rw [if_pos e2]
        subst e2
        exact h.skip h0 k hk0 hkl hkp
      · rw [if_neg e2, if_neg hjk]
        exact h.but j h0 hj e1
  · rw [swp_len] at hc
    have hpc : par c < c := by unfold par; omega
    rw [hrw, hrw, hkp, if_pos rfl, if_neg (show c ≠ i by omega), if_neg (show c ≠ k by omega)]
    have := h.but c h0 hc (by omega)
    rw [hp] at this
    exact this
end Go.Proofs.YtdaklffbfadghaaGreat

namespace Go.Proofs.YtdaklffbfadghaaGreat
open Go.RowKit HP
set_option linter.unusedVariables false
set_option linter.unusedSimpArgs false
def nw (r : List Int) : Int × Int := (r.getD 0 0, r.getD 1 0)
def tm (r : List Int) : Int := r.getD 2 0
structure QSim (L : List (List Int)) (R : List (Int × Int)) (t : Int) : Prop where
  ex : ∃ Ts : List (List Int), Ts.map nw = R ∧ L.Perm Ts ∧ (Ts.Pairwise fun a b => tm a < tm b) ∧ ∀ r ∈ Ts, tm r < t
theorem QSim.nil (t : Int) : QSim [] [] t := ⟨[], rfl, List.Perm.nil, List.Pairwise.nil, fun r h => by cases h⟩
theorem QSim.len {L : List (List Int)} {R : List (Int × Int)} {t : Int} (h : QSim L R t) : L.length = R.length := by
  obtain ⟨Ts, h1, h2, -⟩ := h.ex
  rw [← h1, List.length_map]
  exact h2.length_eq
theorem QSim.perm {L M : List (List Int)} {R : List (Int × Int)} {t : Int} (h : QSim L R t) (hp : M.Perm L) : QSim M R t := by
  obtain ⟨Ts, h1, h2, h3, h4⟩ := h.ex
  exact ⟨Ts, h1, hp.trans h2, h3, h4⟩
theorem QSim.push {L : List (List Int)} {R : List (Int × Int)} {t : Int} (h : QSim L R t) (n what : Int) : QSim (L ++ [[n, what, t]]) (R ++ [(n, what)]) (t + 1) := by
  obtain ⟨Ts, h1, h2, h3, h4⟩ := h.ex
  refine ⟨Ts ++ [[n, what, t]], by rw [List.map_append, h1]; rfl, h2.append_right _, List.pairwise_append.2 ⟨h3, by simp, fun a ha b hb => ?_⟩, fun r hr => ?_⟩
  · rw [List.mem_singleton] at hb
    subst hb
    exact h4 a ha
  · rcases List.mem_append.1 hr with hr | hr
    · have := h4 r hr
      omega
    · rw [List.mem_singleton] at hr
      subst hr
      show t < t + 1
      omega
/-- the place of the number that comes first -/
structure IsLeast (N : List Int) (i : Nat) (x : Int) : Prop where
  get : N[i]? = some x
  min : ∀ (j : Nat) (y : Int), N[j]? = some y → x ≤ y
  first : ∀ (j : Nat) (y : Int), j < i → N[j]? = some y → x < y
theorem IsLeast.uniq {N : List Int} {i j : Nat} {x y : Int} (h : IsLeast N i x) (k : IsLeast N j y) : i = j := by
  have h1 := h.min j y k.get
  have h2 := k.min i x h.get
  rcases Nat.lt_trichotomy i j with e | e | e
  · have := k.first i x e h.get
    omega
  · exact e
  · have := h.first j y e k.get
    omega
theorem QSim.root {L : List (List Int)} {R : List (Int × Int)} {t : Int} (h : QSim L R t) (ho : Ord L) (hne : 0 < L.length) : ∃ i, R[i]? = some (nw (rw_ L 0)) ∧ IsLeast (R.map (·.1)) i (nw (rw_ L 0)).1 ∧ ∀ M, (rw_ L 0 :: M).Perm L → QSim M (delAt R i 1) t := by
  obtain ⟨Ts, h1, h2, h3, h4⟩ := h.ex
  have hx0 : L[0]? = some (rw_ L 0) := get_rw hne
  have hmem : rw_ L 0 ∈ Ts := h2.mem_iff.1 (List.mem_of_getElem? hx0)
  obtain ⟨i, hi, e⟩ := List.getElem_of_mem hmem
  have hmin : ∀ r ∈ Ts, le (rw_ L 0) r := fun r hr => by
    obtain ⟨j, hj, e2⟩ := List.getElem_of_mem (h2.mem_iff.2 hr)
    have := ho.root j j (Nat.le_refl _) hj
    rw [rw_get (List.getElem?_eq_getElem hj), e2] at this
    exact this
  have hlt := List.pairwise_iff_getElem.1 h3
  have hgi : (R.map (·.1))[i]? = some (nw (rw_ L 0)).1 := by
    rw [← h1, List.getElem?_map, List.getElem?_map, List.getElem?_eq_getElem hi, e]
    rfl
  refine ⟨i, ?_, ⟨hgi, fun j y hy => ?_, fun j y hj hy => ?_⟩, fun M hM => ⟨delAt Ts i 1, ?_, ?_, h3.sublist (delAt_sub _ _ _), fun r hr => h4 r (delAt_mem hr)⟩⟩
  · rw [← h1, List.getElem?_map, List.getElem?_eq_getElem hi, e]
    rfl
  · rw [← h1, List.getElem?_map, List.getElem?_map] at hy
    cases hr : Ts[j]? with
    | none => rw [hr] at hy; cases hy
    | some r =>
      rw [hr] at hy
      obtain rfl := Option.some.inj hy
      have := le_iff.1 (hmin r (List.mem_of_getElem? hr))
      show (rw_ L 0).getD 0 0 ≤ r.getD 0 0
      omega
  · rw [← h1, List.getElem?_map, List.getElem?_map] at hy
    cases hr : Ts[j]? with
    | none => rw [hr] at hy; cases hy
    | some r =>
      rw [hr] at hy
      obtain rfl := Option.some.inj hy
      obtain ⟨hjl, e2⟩ := List.getElem?_eq_some_iff.1 hr
      have h5 := le_iff.1 (hmin r (List.mem_of_getElem? hr))
      have h6 := hlt j i hjl hi hj
      rw [e, e2] at h6
      unfold tm at h6
      show (rw_ L 0).getD 0 0 < r.getD 0 0
      omega
  · rw [← h1, delAt_map]
  · have hT : Ts.Perm (rw_ L 0 :: delAt Ts i 1) := by
      have e3 : Ts = Ts.take i ++ rw_ L 0 :: Ts.drop (i + 1) := by
        have := List.getElem_cons_drop hi
        rw [e] at this
        rw [this, List.take_append_drop]
      conv => lhs; rw [e3]
      exact List.perm_middle
    exact List.Perm.cons_inv ((hM.trans h2).trans hT)
/-- the first row gone, the last one in its place -/
def popL (L : List (List Int)) : List (List Int) := (L.set 0 (rw_ L (L.length - 1))).take (L.length - 1)
theorem popL_len (L : List (List Int)) : (popL L).length = L.length - 1 := by
  unfold popL
  rw [List.length_take, List.length_set]
  omega
theorem popL_perm {L : List (List Int)} (hne : 0 < L.length) : (rw_ L 0 :: popL L).Perm L := by
  cases L with
  | nil => simp at hne
  | cons x M =>
    have e0 : rw_ (x :: M) 0 = x := rfl
    rw [e0]
    refine List.Perm.cons x ?_
    unfold popL
    rw [List.length_cons, Nat.add_sub_cancel, List.set_cons_zero]
    cases hM : M.reverse with
    | nil =>
      have : M = [] := by simpa using hM
      subst this
      exact List.Perm.nil
    | cons y P =>
      have e1 : M = P.reverse ++ [y] := by
        have := congrArg List.reverse hM
        simpa using this
      have e2 : rw_ (x :: M) M.length = y := by
        unfold rw_
        rw [List.getD_eq_getElem?_getD, e1]
        simp
      rw [e2, e1]
      simp only [List.length_append, List.length_singleton, List.take_succ_cons]
      rw [List.take_left' rfl]
      exact (List.perm_append_comm (l₁ := [y]) (l₂ := P.reverse))
theorem popL_rw {L : List (List Int)} {j : Nat} (h0 : 0 < j) (hj : j < L.length - 1) : rw_ (popL L) j = rw_ L j := by
  unfold popL
  conv => lhs; unfold rw_
  rw [List.getD_eq_getElem?_getD, List.getElem?_take, if_pos hj, List.getElem?_set_ne (by omega), ← List.getD_eq_getElem?_getD]
  rfl
theorem popL_dn {L : List (List Int)} (h : Ord L) : DnI (popL L) 0 := by
  refine ⟨fun j h0 hj hne => ?_, fun h0 => by omega⟩
  rw [popL_len] at hj
  have hpj : par j < j := by unfold par; omega
  rw [popL_rw (by omega) (by omega), popL_rw h0 hj]
  exact h j h0 (by omega)
end Go.Proofs.YtdaklffbfadghaaGreat

namespace Go.Proofs.YtdaklffbfadghaaGreat
open Go.RowKit HP
set_option linter.unusedVariables false
set_option linter.unusedSimpArgs false
theorem Holds.same {m m' : HM} (h : m'.live = m.live) {bg at_ v : Int} (H : Holds m bg at_ v) : Holds m' bg at_ v := H.live fun x hx _ => by rw [h]; exact hx
theorem Low.count {m m' : HM} {T d : Nat} {ps : List Int} (h : Low m T ps d) (hl : m'.live = m.live) (hs : m'.size = m.size) (hk : m'.kind = m.kind) (hf : m'.failIn = 0) : Low m' T ps d :=
  ⟨hk.trans h.kind, hs.trans h.size, hf, by have := h.base; unfold Go.Proofs.YtdaklffbfadghaaGreat.rest stretches at this ⊢; rw [hl]; exact this⟩
/-- room was made for one row more, or not -/
structure Grew (m m' : HM) (T : Nat) (ps qs : List Int) (n : Nat) (ok : Bool) : Prop where
  inv : Inv m'
  fr : Fr m m' ps qs
  yes : ok = true → n < 64 ∧ Pcs m' T qs (n + 1)
  no : ok = false → qs = ps ∧ Pcs m' T ps n
  rows : ∀ j r, RowIs m T ps j r → RowIs m' T qs j r
  full : n = 64 → ok = false ∧ m'.calls = m.calls
  calls : m.calls ≤ m'.calls ∧ m'.calls ≤ m.calls + 1
  low : ∀ d, Low m T ps d → Low m' T qs d ∧ (n < 16 → ok = true)
theorem grew_full {m : HM} {T : Nat} {ps : List Int} (I : Inv m) (P : Pcs m T ps 64) : Grew m m T ps ps 64 false :=
  ⟨I, .refl _ _, fun h => (by cases h), fun _ => ⟨rfl, P⟩, fun _ _ h => h, fun _ => ⟨rfl, rfl⟩, ⟨Int.le_refl _, by omega⟩, fun d h => ⟨h, fun e => by omega⟩⟩
theorem grew_same {m : HM} {T : Nat} {ps : List Int} {n : Nat} (I : Inv m) (P : Pcs m T ps n) (hn : n < 64) (h : n % 4 ≠ 0) : Grew m m T ps ps n true :=
  ⟨I, .refl _ _, fun _ => ⟨hn, grow_same P h⟩, fun h => (by cases h), fun _ _ h => h, fun e => (by omega), ⟨Int.le_refl _, by omega⟩, fun d h => ⟨h, fun _ => rfl⟩⟩
theorem grew_yes {m : HM} {T : Nat} {ps : List Int} {n : Nat} (I : Inv m) (P : Pcs m T ps n) (hn : n < 64) (h : n % 4 = 0) (hT : 1 ≤ T ∧ T ≤ 3) (hal : (allocM m ((32 * T : Nat) : Int) 8).2.2 = 0) :
    Grew m (allocM m ((32 * T : Nat) : Int) 8).1 T ps (ps ++ [(allocM m ((32 * T : Nat) : Int) 8).2.1]) n true := by
  obtain ⟨h1, h2, h3⟩ := grow_new I P h hal
  obtain ⟨_, _, _, _, _, _, a1, _⟩ := alloc_yes I hal
  refine ⟨alloc_inv I _ _, h2, fun _ => ⟨hn, h1⟩, fun h => (by cases h), h3, fun e => (by omega), ⟨by omega, by omega⟩, fun d hL => ⟨?_, fun _ => rfl⟩⟩
  · exact (hL.grow P I hn h hT).2
theorem grew_no {m : HM} {T : Nat} {ps : List Int} {n : Nat} (I : Inv m) (P : Pcs m T ps n) (hn : n < 64) (h : n % 4 = 0) (hT : 1 ≤ T ∧ T ≤ 3) (hal : ¬ (allocM m ((32 * T : Nat) : Int) 8).2.2 = 0) :
    Grew m (allocM m ((32 * T : Nat) : Int) 8).1 T ps ps n false := by
  obtain ⟨h1, h2, h3⟩ := alloc_no hal
  have hst : stretches (allocM m ((32 * T : Nat) : Int) 8).1 = stretches m := by unfold stretches; rw [h1]
  have hcf : m.calls ≤ (allocM m ((32 * T : Nat) : Int) 8).1.calls ∧ (allocM m ((32 * T : Nat) : Int) 8).1.calls ≤ m.calls + 1 := by
    unfold allocM
    split
    · exact ⟨Int.le_refl _, by show m.calls ≤ m.calls + 1; omega⟩
    · split
      · exact ⟨by show m.calls ≤ m.calls + 1; omega, Int.le_refl _⟩
      · split
        · exact ⟨by show m.calls ≤ m.calls + 1; omega, Int.le_refl _⟩
        · exact ⟨by show m.calls ≤ m.calls + 1; omega, Int.le_refl _⟩
  refine ⟨alloc_inv I _ _, ⟨h2, h3, by unfold Go.Proofs.YtdaklffbfadghaaGreat.rest; rw [hst], fun _ _ _ _ H => H.same h1, fun p hp => .inl hp⟩, fun e => (by cases e), fun _ => ⟨rfl, P.shape hst⟩, fun j r hr => ?_, fun e => (by omega), hcf, fun d hL => ⟨?_, fun h16 => absurd (hL.grow P I hn h hT).1 hal⟩⟩
  · obtain ⟨p, hp, hl, hR⟩ := hr
    exact ⟨p, hp, hl, fun c hc => (hR c hc).same h1⟩
  · refine hL.count h1 h2 h3 ?_
    unfold allocM
    split
    · exact hL.failIn
    · split
      · show (if m.failIn = 0 then 0 else m.failIn - 1) = 0
        rw [if_pos hL.failIn]
      · split
        · show (if m.failIn = 0 then 0 else m.failIn - 1) = 0
          rw [if_pos hL.failIn]
        · show (if m.failIn = 0 then 0 else m.failIn - 1) = 0
          rw [if_pos hL.failIn]
theorem Grew.up {m m' : HM} {T : Nat} {ps qs : List Int} {L : List (List Int)} (K : Kp m T ps L) (G : Grew m m' T ps qs L.length true) : ShUp m' T qs L L.length :=
  ⟨G.inv, (G.yes rfl).2, fun j r _ hr => G.rows j r (K.row j r hr), fun j r hj hr => by have := (List.getElem?_eq_some_iff.1 hr).1; omega⟩
theorem Grew.still {m m' : HM} {T : Nat} {ps qs : List Int} {L : List (List Int)} (K : Kp m T ps L) (G : Grew m m' T ps qs L.length false) : Kp m' T ps L := by
  obtain ⟨e, P⟩ := G.no rfl
  subst e
  exact ⟨P, K.len, fun j r hr => G.rows j r (K.row j r hr)⟩
end Go.Proofs.YtdaklffbfadghaaGreat
