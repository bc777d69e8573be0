/- Names that are missing, in plain Lean: what is collected, sorted and made single is what is put in its place one by one. Conditions: as each theorem says. -/
import Derived.Test.YtjdioilkhbpmoaaLinkDp
import Derived.Lib.SlicesCompact
import Derived.Lib.RowBridge
import Derived.Sort.KeysCollected
import Derived.Sort.OwnSorted
namespace Go.Proofs.Ytjdioilkhbpmoaa
open Go.RowKit LK
set_option linter.unusedVariables false
abbrev Tx := List UInt8
def bl (s : ByteArray) : Tx := s.data.toList
theorem enc_bl (s : ByteArray) : encStr (bl s) = Value.string s := rfl
theorem bl_inj {a b : ByteArray} : bl a = bl b ↔ a = b := by
  constructor
  · intro h
    cases a; cases b
    simp [bl] at h
    rw [h]
  · intro h; rw [h]
/-- the names that an object wants and that no symbol has -/
def missW (T : Tab) (ws : List Wnt) : List Tx := (ws.filter fun x => (lookS T x.2.2).isNone).map fun x => bl x.2.2
def missL (T : Tab) (os : List OV) : List Tx := os.flatMap fun o => missW T o.2.2.xs
def sortT (l : List Tx) : List Tx := Lib.compact (l.mergeSort fun x y => decide (x ≤ y))
def insT (s : Tx) : List Tx → List Tx
  | [] => [s]
  | x :: r => if s < x then s :: x :: r else if x = s then x :: r else x :: insT s r
def putT (l : List Tx) : List Tx := l.foldl (fun set s => insT s set) []
theorem missW_step {T : Tab} {ws : List Wnt} {j : Nat} {x : Wnt} (h : ws[j]? = some x) : missW T (ws.take (j + 1)) = if (lookS T x.2.2).isNone then missW T (ws.take j) ++ [bl x.2.2] else missW T (ws.take j) := by
  unfold missW
  rw [List.take_add_one, h, Option.toList_some, List.filter_append, List.map_append]
  cases hx : (lookS T x.2.2).isNone <;> simp [hx]
theorem missL_step {T : Tab} {os : List OV} {k : Nat} {o : OV} (h : os[k]? = some o) : missL T (os.take (k + 1)) = missL T (os.take k) ++ missW T o.2.2.xs := by
  unfold missL
  rw [List.take_add_one, h, Option.toList_some, List.flatMap_append]
  simp
theorem missW_len (T : Tab) (ws : List Wnt) : (missW T ws).length ≤ ws.length := by
  unfold missW
  rw [List.length_map]
  exact List.length_filter_le _ _
theorem putT_snoc (l : List Tx) (s : Tx) : putT (l ++ [s]) = insT s (putT l) := by simp [putT]
/-! the order -/
theorem tlt_trans {a b c : Tx} (h : a < b) (k : b < c) : a < c := List.lt_trans h k
theorem tlt_irr (a : Tx) : ¬ a < a := List.lt_irrefl a
theorem tlt_of_le_ne {a b : Tx} (h : a ≤ b) (k : a ≠ b) : a < b := Classical.byContradiction fun h2 => k (List.le_antisymm h (List.not_lt.1 h2))
theorem tlt_of_not {a b : Tx} (h : ¬ a < b) (k : b ≠ a) : b < a := tlt_of_le_ne (List.not_lt.1 h) k
theorem insT_mem {s y : Tx} : ∀ {l : List Tx}, y ∈ insT s l ↔ y = s ∨ y ∈ l
  | [] => by simp [insT]
  | x :: r => by
    unfold insT
    split
    · simp
    · split
      · rename_i h; subst h; simp
      · simp only [List.mem_cons, insT_mem (l := r)]
        constructor
        · rintro (h | h | h)
          · exact .inr (.inl h)
          · exact .inl h
          · exact .inr (.inr h)
        · rintro (h | h | h)
          · exact .inr (.inl h)
          · exact .inl h
          · exact .inr (.inr h)
theorem insT_sorted {s : Tx} : ∀ {l : List Tx}, l.Pairwise (· < ·) → (insT s l).Pairwise (· < ·)
  | [], _ => by simp [insT]
  | x :: r, h => by
    obtain ⟨h1, h2⟩ := List.pairwise_cons.1 h
    unfold insT
    split
    · rename_i hs
      refine List.pairwise_cons.2 ⟨fun y hy => ?_, h⟩
      rcases List.mem_cons.1 hy with rfl | hy
      · exact hs
      · exact tlt_trans hs (h1 y hy)
    · rename_i hs
      split
      · exact h
      · rename_i hx
        refine List.pairwise_cons.2 ⟨fun y hy => ?_, insT_sorted h2⟩
        rcases insT_mem.1 hy with rfl | hy
        · exact tlt_of_not hs hx
        · exact h1 y hy
theorem putT_sorted (l : List Tx) : (putT l).Pairwise (· < ·) ∧ ∀ y, y ∈ putT l ↔ y ∈ l := by
  have : ∀ (l set : List Tx), set.Pairwise (· < ·) → (l.foldl (fun set s => insT s set) set).Pairwise (· < ·) ∧ ∀ y, y ∈ l.foldl (fun set s => insT s set) set ↔ y ∈ set ∨ y ∈ l := by
    intro l
    induction l with
    | nil => intro set h; exact ⟨h, fun y => by simp⟩
    | cons a r ih =>
      intro set h
      obtain ⟨h1, h2⟩ := ih (insT a set) (insT_sorted h)
      refine ⟨h1, fun y => ?_⟩
      rw [List.foldl_cons, h2 y, insT_mem, List.mem_cons]
      constructor
      · rintro ((h | h) | h)
        · exact .inr (.inl h)
        · exact .inl h
        · exact .inr (.inr h)
      · rintro (h | h | h)
        · exact .inl (.inr h)
        · exact .inl (.inl h)
        · exact .inr h
  obtain ⟨h1, h2⟩ := this l [] List.Pairwise.nil
  exact ⟨h1, fun y => by rw [show putT l = l.foldl (fun set s => insT s set) [] from rfl, h2 y]; simp⟩
theorem strict_eq {a b : List Tx} (ha : a.Pairwise (· < ·)) (hb : b.Pairwise (· < ·)) (h : ∀ y, y ∈ a ↔ y ∈ b) : a = b := by
  have nd : ∀ {l : List Tx}, l.Pairwise (· < ·) → l.Nodup := fun {l} hl => by
    unfold List.Nodup
    refine List.Pairwise.imp (fun {x y} h e => ?_) hl
    subst e
    exact tlt_irr _ h
  refine List.Perm.eq_of_pairwise (le := fun a b : Tx => a < b) (fun x y _ _ h1 h2 => absurd (tlt_trans h1 h2) (tlt_irr _)) ha hb ((List.perm_ext_iff_of_nodup (nd ha) (nd hb)).2 h)
theorem compact_spec {d : Array Tx} (hs : ∀ i j, i ≤ j → j < d.size → d[i]! ≤ d[j]!) : ∀ m, m ≤ d.size → (Lib.compactUpTo d m).Pairwise (· < ·) ∧ ∀ y, y ∈ Lib.compactUpTo d m ↔ ∃ j, j < m ∧ y = d[j]!
  | 0, _ => by simp [Lib.compactUpTo]
  | m + 1, hm => by
    obtain ⟨h1, h2⟩ := compact_spec hs m (by omega)
    rw [Lib.compactUpTo_succ]
    cases hk : Lib.keeps d m with
    | true =>
      have hne : m = 0 ∨ d[m]! ≠ d[m - 1]! := by simpa [Lib.keeps] using hk
      refine ⟨List.pairwise_append.2 ⟨h1, by simp, fun a ha b hb => ?_⟩, fun y => ?_⟩
      · obtain ⟨j, hj, rfl⟩ := (h2 a).1 ha
        simp at hb
        subst hb
        rcases hne with rfl | hne
        · omega
        · have a1 := hs j (m - 1) (by omega) (by omega)
          have a2 := tlt_of_le_ne (hs (m - 1) m (by omega) (by omega)) (fun e => hne e.symm)
          exact Classical.byContradiction fun h3 => tlt_irr _ (List.lt_of_le_of_lt (Std.le_trans (List.not_lt.1 h3) a1) a2)
      · rw [List.mem_append, h2 y]
        simp
        constructor
        · rintro (⟨j, hj, e⟩ | e)
          · exact ⟨j, by omega, e⟩
          · exact ⟨m, by omega, e⟩
        · rintro ⟨j, hj, e⟩
          by_cases c : j = m
          · subst c; exact .inr e
          · exact .inl ⟨j, by omega, e⟩
    | false =>
      have hne : m ≠ 0 ∧ d[m]! = d[m - 1]! := by simpa [Lib.keeps] using hk
      simp only [Bool.false_eq_true, if_false, List.append_nil]
      refine ⟨h1, fun y => ?_⟩
      rw [h2 y]
      constructor
      · rintro ⟨j, hj, e⟩
        exact ⟨j, by omega, e⟩
      · rintro ⟨j, hj, e⟩
        by_cases c : j = m
        · subst c; exact ⟨j - 1, by omega, by rw [e, hne.2]⟩
        · exact ⟨j, by omega, e⟩
theorem sortT_spec (l : List Tx) : (sortT l).Pairwise (· < ·) ∧ ∀ y, y ∈ sortT l ↔ y ∈ l := by
  have tr : ∀ a b c : Tx, leB a b = true → leB b c = true → leB a c = true := fun a b c h1 h2 => by simp only [leB, decide_eq_true_eq] at *; exact List.le_trans h1 h2
  have tot : ∀ a b : Tx, (leB a b || leB b a) = true := fun a b => by simp only [leB, Bool.or_eq_true, decide_eq_true_eq]; exact List.le_total a b
  have hp := List.pairwise_mergeSort tr tot l
  have hperm := List.mergeSort_perm l leB
  have hs : ∀ i j, i ≤ j → j < (l.mergeSort leB).toArray.size → (l.mergeSort leB).toArray[i]! ≤ (l.mergeSort leB).toArray[j]! := fun i j hij hj => by
    have hj' : j < (l.mergeSort leB).length := by simpa using hj
    rw [getElem!_pos _ j hj, getElem!_pos _ i (by omega)]
    rcases Nat.lt_or_eq_of_le hij with h | rfl
    · have := (List.pairwise_iff_getElem.1 hp) i j (by omega) hj' h
      simpa [leB] using this
    · exact List.le_refl _
  obtain ⟨h1, h2⟩ := compact_spec hs (l.mergeSort leB).length (by simp)
  refine ⟨h1, fun y => ?_⟩
  have e : sortT l = Lib.compactUpTo (l.mergeSort leB).toArray (l.mergeSort leB).length := rfl
  rw [e, h2 y, ← hperm.mem_iff]
  constructor
  · rintro ⟨j, hj, rfl⟩
    rw [getElem!_pos _ j (by simpa using hj)]
    simp
  · intro hy
    obtain ⟨j, hj, e⟩ := List.getElem_of_mem hy
    refine ⟨j, hj, ?_⟩
    rw [getElem!_pos _ j (by simpa using hj)]
    simp [e]
theorem sortT_eq (l : List Tx) : sortT l = putT l := by
  obtain ⟨a1, a2⟩ := sortT_spec l
  obtain ⟨b1, b2⟩ := putT_sorted l
  exact strict_eq a1 b1 fun y => by rw [a2, b2]
theorem putT_nil {l : List Tx} : putT l = [] ↔ l = [] := by
  constructor
  · intro h
    cases l with
    | nil => rfl
    | cons a r =>
      have := (putT_sorted (a :: r)).2 a
      rw [h] at this
      simp at this
  · intro h; subst h; rfl
theorem putT_len (l : List Tx) : (putT l).length ≤ l.length := by
  have hi : ∀ (s : Tx) (l : List Tx), (insT s l).length ≤ l.length + 1 := by
    intro s l
    induction l with
    | nil => simp [insT]
    | cons x r ih => unfold insT; split
                     · simp
                     · split <;> simp <;> omega
  have : ∀ (l set : List Tx), (l.foldl (fun set s => insT s set) set).length ≤ set.length + l.length := by
    intro l
    induction l with
    | nil => intro set; simp
    | cons a r ih => intro set; have := ih (insT a set); have := hi a set; simp at *; omega
  have := this l []
  simpa [putT] using this
end Go.Proofs.Ytjdioilkhbpmoaa
