/- Names that are missing, in plain Lean: what is collected, sorted and made single is what is put in its place one by one. The walk of the program's Missing. The walks of the reference's put, missing and Missing. Conditions: as each theorem says. -/
import Derived.Test.YtiilkiggfjpibaaLinkU4
import Derived.Lib.SlicesCompact
import Derived.Lib.RowBridge
import Derived.Sort.KeysCollected
import Derived.Sort.OwnSorted
import Derived.Test.YtiilkiggfjpibaaLinkSh
import Derived.Laws.Cover1
import Derived.Sort.Walk0
namespace Go.Proofs.Ytiilkiggfjpibaa
open Go.RowKit LK
set_option linter.unusedVariables false
set_option linter.unusedSimpArgs false
abbrev Tx := List UInt8
def bl (s : ByteArray) : Tx := s.data.toList
theorem enc_bl (s : ByteArray) : encStr (bl s) = Value.string s := rfl
theorem bl_inj {a b : ByteArray} : bl a = bl b ↔ a = b := by
  constructor
  · intro h
    cases a; cases b
    simp [bl] at h
    rw [h]
  · intro h; rw [h]
/-- the names that an object wants and that no symbol has -/
def missW (T : Tab) (ws : List Wnt) : List Tx := (ws.filter fun x => (lookS T x.2.2).isNone).map fun x => bl x.2.2
def missL (T : Tab) (os : List OV) : List Tx := os.flatMap fun o => missW T o.2.2.xs
def sortT (l : List Tx) : List Tx := Lib.compact (l.mergeSort fun x y => decide (x ≤ y))
def insT (s : Tx) : List Tx → List Tx
  | [] => [s]
  | x :: r => if s < x then s :: x :: r else if x = s then x :: r else x :: insT s r
def putT (l : List Tx) : List Tx := l.foldl (fun set s => insT s set) []
theorem missW_step {T : Tab} {ws : List Wnt} {j : Nat} {x : Wnt} (h : ws[j]? = some x) : missW T (ws.take (j + 1)) = if (lookS T x.2.2).isNone then missW T (ws.take j) ++ [bl x.2.2] else missW T (ws.take j) := by
  unfold missW
  rw [List.take_add_one, h, Option.toList_some, List.filter_append, List.map_append]
  cases hx : (lookS T x.2.2).isNone <;> simp [hx]
theorem missL_step {T : Tab} {os : List OV} {k : Nat} {o : OV} (h : os[k]? = some o) : missL T (os.take (k + 1)) = missL T (os.take k) ++ missW T o.2.2.xs := by
  unfold missL
  rw [List.take_add_one, h, Option.toList_some, List.flatMap_append]
  simp
theorem missW_len (T : Tab) (ws : List Wnt) : (missW T ws).length ≤ ws.length := by
  unfold missW
  rw [List.length_map]
  exact List.length_filter_le _ _
theorem putT_snoc (l : List Tx) (s : Tx) : putT (l ++ [s]) = insT s (putT l) := by simp [putT]
/-! the order -/
theorem tlt_trans {a b c : Tx} (h : a < b) (k : b < c) : a < c := List.lt_trans h k
theorem tlt_irr (a : Tx) : ¬ a < a := List.lt_irrefl a
theorem tlt_of_le_ne {a b : Tx} (h : a ≤ b) (k : a ≠ b) : a < b := Classical.byContradiction fun h2 => k (List.le_antisymm h (List.not_lt.1 h2))
theorem tlt_of_not {a b : Tx} (h : ¬ a < b) (k : b ≠ a) : b < a := tlt_of_le_ne (List.not_lt.1 h) k
theorem insT_mem {s y : Tx} : ∀ {l : List Tx}, y ∈ insT s l ↔ y = s ∨ y ∈ l
  | [] => by simp [insT]
  | x :: r => by
    unfold insT
    split
    · simp
    · split
      · rename_i h; subst h; simp
      · simp only [List.mem_cons, insT_mem (l := r)]
        constructor
        · rintro (h | h | h)
          · exact .inr (.inl h)
          · exact .inl h
          · exact .inr (.inr h)
        · rintro (h | h | h)
          · exact .inr (.inl h)
          · exact .inl h
          · exact .inr (.inr h)
theorem insT_sorted {s : Tx} : ∀ {l : List Tx}, l.Pairwise (· < ·) → (insT s l).Pairwise (· < ·)
  | [], _ => by simp [insT]
  | x :: r, h => by
    obtain ⟨h1, h2⟩ := List.pairwise_cons.1 h
    unfold insT
    split
    · rename_i hs
      refine List.pairwise_cons.2 ⟨fun y hy => ?_, h⟩
      rcases List.mem_cons.1 hy with rfl | hy
      · exact hs
      · exact tlt_trans hs (h1 y hy)
    · rename_i hs
      split
      · exact h
      · rename_i hx
        refine List.pairwise_cons.2 ⟨fun y hy => ?_, insT_sorted h2⟩
        rcases insT_mem.1 hy with rfl | hy
        · exact tlt_of_not hs hx
        · exact h1 y hy
theorem putT_sorted (l : List Tx) : (putT l).Pairwise (· < ·) ∧ ∀ y, y ∈ putT l ↔ y ∈ l := by
  have : ∀ (l set : List Tx), set.Pairwise (· < ·) → (l.foldl (fun set s => insT s set) set).Pairwise (· < ·) ∧ ∀ y, y ∈ l.foldl (fun set s => insT s set) set ↔ y ∈ set ∨ y ∈ l := by
    intro l
    induction l with
    | nil => intro set h; exact ⟨h, fun y => by simp⟩
    | cons a r ih =>
      intro set h
      obtain ⟨h1, h2⟩ := ih (insT a set) (insT_sorted h)
      refine ⟨h1, fun y => ?_⟩
      rw [List.foldl_cons, h2 y, insT_mem, List.mem_cons]
      constructor
      · rintro ((h | h) | h)
        · exact .inr (.inl h)
        · exact .inl h
        · exact .inr (.inr h)
      · rintro (h | h | h)
        · exact .inl (.inr h)
        · exact .inl (.inl h)
        · exact .inr h
  obtain ⟨h1, h2⟩ := this l [] List.Pairwise.nil
  exact ⟨h1, fun y => by rw [show putT l = l.foldl (fun set s => insT s set) [] from rfl, h2 y]; simp⟩
theorem strict_eq {a b : List Tx} (ha : a.Pairwise (· < ·)) (hb : b.Pairwise (· < ·)) (h : ∀ y, y ∈ a ↔ y ∈ b) : a = b := by
  have nd : ∀ {l : List Tx}, l.Pairwise (· < ·) → l.Nodup := fun {l} hl => by
    unfold List.Nodup
    refine List.Pairwise.imp (fun {x y} h e => ?_) hl
    subst e
    exact tlt_irr _ h
  refine List.Perm.eq_of_pairwise (le := fun a b : Tx => a < b) (fun x y _ _ h1 h2 => absurd (tlt_trans h1 h2) (tlt_irr _)) ha hb ((List.perm_ext_iff_of_nodup (nd ha) (nd hb)).2 h)
theorem compact_spec {d : Array Tx} (hs : ∀ i j, i ≤ j → j < d.size → d[i]! ≤ d[j]!) : ∀ m, m ≤ d.size → (Lib.compactUpTo d m).Pairwise (· < ·) ∧ ∀ y, y ∈ Lib.compactUpTo d m ↔ ∃ j, j < m ∧ y = d[j]!
  | 0, _ => by simp [Lib.compactUpTo]
  | m + 1, hm => by
    obtain ⟨h1, h2⟩ := compact_spec hs m (by omega)
    rw [Lib.compactUpTo_succ]
    cases hk : Lib.keeps d m with
    | true =>
      have hne : m = 0 ∨ d[m]! ≠ d[m - 1]! := by simpa [Lib.keeps] using hk
      refine ⟨List.pairwise_append.2 ⟨h1, by simp, fun a ha b hb => ?_⟩, fun y => ?_⟩
      · obtain ⟨j, hj, rfl⟩ := (h2 a).1 ha
        simp at hb
        subst hb
        rcases hne with rfl | hne
        · omega
        · have a1 := hs j (m - 1) (by omega) (by omega)
          have a2 := tlt_of_le_ne (hs (m - 1) m (by omega) (by omega)) (fun e => hne e.symm)
          exact Classical.byContradiction fun h3 => tlt_irr _ (List.lt_of_le_of_lt (Std.le_trans (List.not_lt.1 h3) a1) a2)
      · rw [List.mem_append, h2 y]
        simp
        constructor
        · rintro (⟨j, hj, e⟩ | e)
          · exact ⟨j, by omega, e⟩
          · exact ⟨m, by omega, e⟩
        · rintro ⟨j, hj, e⟩
          by_cases c : j = m
          · subst c; exact .inr e
          · exact .inl ⟨j, by omega, e⟩
    | false =>
      have hne : m ≠ 0 ∧ d[m]! = d[m - 1]! := by simpa [Lib.keeps] using hk
      simp only [Bool.false_eq_true, if_false, List.append_nil]
      refine ⟨h1, fun y => ?_⟩
      rw [h2 y]
      constructor
      · rintro ⟨j, hj, e⟩
        exact ⟨j, by omega, e⟩
      · rintro ⟨j, hj, e⟩
        by_cases c : j = m
        · subst c; exact ⟨j - 1, by omega, by rw [e, hne.2]⟩
        · exact ⟨j, by omega, e⟩
theorem sortT_spec (l : List Tx) : (sortT l).Pairwise (· < ·) ∧ ∀ y, y ∈ sortT l ↔ y ∈ l := by
  have tr : ∀ a b c : Tx, leB a b = true → leB b c = true → leB a c = true := fun a b c h1 h2 => by simp only [leB, decide_eq_true_eq] at *; exact List.le_trans h1 h2
  have tot : ∀ a b : Tx, (leB a b || leB b a) = true := fun a b => by simp only [leB, Bool.or_eq_true, decide_eq_true_eq]; exact List.le_total a b
  have hp := List.pairwise_mergeSort tr tot l
  have hperm := List.mergeSort_perm l leB
  have hs : ∀ i j, i ≤ j → j < (l.mergeSort leB).toArray.size → (l.mergeSort leB).toArray[i]! ≤ (l.mergeSort leB).toArray[j]! := fun i j hij hj => by
    have hj' : j < (l.mergeSort leB).length := by simpa using hj
    rw [getElem!_pos _ j hj, getElem!_pos _ i (by omega)]
    rcases Nat.lt_or_eq_of_le hij with h | rfl
    · have := (List.pairwise_iff_getElem.1 hp) i j (by omega) hj' h
      simpa [leB] using this
    · exact List.le_refl _
  obtain ⟨h1, h2⟩ := compact_spec hs (l.mergeSort leB).length (by simp)
  refine ⟨h1, fun y => ?_⟩
  have e : sortT l = Lib.compactUpTo (l.mergeSort leB).toArray (l.mergeSort leB).length := rfl
  rw [e, h2 y, ← hperm.mem_iff]
  constructor
  · rintro ⟨j, hj, rfl⟩
    rw [getElem!_pos _ j (by simpa using hj)]
    simp
  · intro hy
    obtain ⟨j, hj, e⟩ := List.getElem_of_mem hy
    refine ⟨j, hj, ?_⟩
    rw [getElem!_pos _ j (by simpa using hj)]
    simp [e]
theorem sortT_eq (l : List Tx) : sortT l = putT l := by
  obtain ⟨a1, a2⟩ := sortT_spec l
  obtain ⟨b1, b2⟩ := putT_sorted l
  exact strict_eq a1 b1 fun y => by rw [a2, b2]
theorem putT_nil {l : List Tx} : putT l = [] ↔ l = [] := by
  constructor
  · intro h
    cases l with
    | nil => rfl
    | cons a r =>
      have := (putT_sorted (a :: r)).2 a
      rw [h] at this
      simp at this
  · intro h; subst h; rfl
theorem putT_len (l : List Tx) : (putT l).length ≤ l.length := by
  have hi : ∀ (s : Tx) (l : List Tx), (insT s l).length ≤ l.length + 1 := by
    intro s l
    induction l with
    | nil => simp [insT]
    | cons x r ih => unfold insT; split
                     · simp
                     · split <;> simp <;> omega
  have : ∀ (l set : List Tx), (l.foldl (fun set s => insT s set) set).length ≤ set.length + l.length := by
    intro l
    induction l with
    | nil => intro set; simp
    | cons a r ih => intro set; have := ih (insT a set); have := hi a set; simp at *; omega
  have := this l []
  simpa [putT] using this
end Go.Proofs.Ytiilkiggfjpibaa

namespace Go.Proofs.Ytiilkiggfjpibaa
open Go.RowKit LK
set_option linter.unusedVariables false
set_option linter.unusedSimpArgs false
def SPost (w : World) (er : Nat) (xs : List Tx) (e : Ending) (w' : World) : Prop := ∃ v, e = .returned (.tuple #[v, .int .i64 (er : Nat)]) ∧ w'.ownsRow w.heap.size 9 1 v xs.length (xs.map encStr) ∧ Q w w'
def missR (os : List OV) : List Tx := if listedO os = 0 then putT (missL (tabF 0 0 os) os) else []
theorem missL_len (T : Tab) : ∀ os : List OV, (∀ o ∈ os, o.2.2.xs.length ≤ 16) → (missL T os).length ≤ 16 * os.length
  | [], _ => by simp [missL]
  | o :: r, h => by
    have ih := missL_len T r (fun x hx => h x (List.mem_cons_of_mem _ hx))
    have h0 := h o (List.mem_cons_self ..)
    have h1 := missW_len T o.2.2.xs
    have e : missL T (o :: r) = missW T o.2.2.xs ++ missL T r := by simp [missL]
    rw [e, List.length_append, List.length_cons]
    omega
theorem own_cut {w : World} {base e g n cap : Nat} {xs : List Value} (h : w.ownsRow base e 1 (.slice (some ⟨g, 0, none⟩) n cap) n xs) (m : Nat) (hm : m ≤ n) : w.ownsRow base e 1 (.slice (some ⟨g, 0, none⟩) m cap) m (xs.take m) := by
  have h0 := h.1
  rcases h.2 with ⟨e0, _⟩ | ⟨g', cap', cur, e0, hg, hh, hn, hc, hs, ht⟩
  · cases e0
  · cases e0
    refine ⟨by rw [List.length_take]; omega, .inr ⟨_, _, cur, rfl, hg, hh, by omega, hc, hs, ?_⟩⟩
    rw [← ht, List.take_take]
    congr 1
    omega
/-- the library's sort, then its compact, at a row of the call's own -/
theorem sorted_own {w : World} {base g cap : Nat} {ss : List Tx} (h : w.ownsRow base 9 1 (.slice (some ⟨g, 0, none⟩) ss.length cap) ss.length (ss.map encStr)) (hl : ss.length ≤ 1000000) :
    Calls Try.prog 78 #[.slice (some ⟨g, 0, none⟩) ss.length cap] w fun e w' => e = .returned (.tuple #[]) ∧ w.grownBy w' (some g) ∧ w'.ownsRow base 9 1 (.slice (some ⟨g, 0, none⟩) ss.length cap) ss.length ((ss.mergeSort fun x y => decide (x ≤ y)).map encStr) := by
  rcases h.2 with ⟨e0, _⟩ | ⟨g', cap', cur, e0, hg, hh, hn, hc, hs, ht⟩
  · cases e0
  · cases e0
    rw [Nat.mul_one] at ht
    refine (Try.slices_Sort_string g 0 cap ss w (holds_of_block hh ht) (Array.getElem?_eq_some_iff.1 hh).1 (by omega)).mono ?_
    rintro e w' ⟨rfl, q, os, rfl⟩
    exact ⟨rfl, grownBy_sorted _, ownsRow_sorted (by simp) hg hh hn hc hs⟩
theorem compact_own {w : World} {base g cap : Nat} {zs : List Tx} (h : w.ownsRow base 9 1 (.slice (some ⟨g, 0, none⟩) zs.length cap) zs.length (zs.map encStr)) (hl : zs.length ≤ 1000000) :
    Calls Try.prog 79 #[.slice (some ⟨g, 0, none⟩) zs.length cap] w fun e w' => e = .returned (.slice (some ⟨g, 0, none⟩) (Lib.compact zs).length cap) ∧ w.grownBy w' (some g) ∧ w'.ownsRow base 9 1 (.slice (some ⟨g, 0, none⟩) (Lib.compact zs).length cap) (Lib.compact zs).length ((Lib.compact zs).map encStr) := by
  have hle := Lib.compact_length_le zs
  rcases h.2 with ⟨e0, _⟩ | ⟨g', cap', cur, e0, hg, hh, hn, hc, hs, ht⟩
  · cases e0
  · cases e0
    rw [Nat.mul_one] at ht
    refine (Try.slices_Compact_string g 0 cap zs w (holds_of_block hh ht) (by omega) hn).mono ?_
    rintro e w' ⟨rfl, q, rfl⟩
    have e0 := Sort.grow_empty (Sort.putRow encStr (Sort.ahead w q) g 0 (Lib.compact zs ++ List.replicate (zs.length - (Lib.compact zs).length) []).toArray)
    rw [← e0]
    refine ⟨rfl, grownBy_sorted _, ?_⟩
    have h2 := ownsRow_sorted (n := q) (os := #[]) (ss := zs) (ts := Lib.compact zs ++ List.replicate (zs.length - (Lib.compact zs).length) []) (by simp; omega) hg hh hn hc hs
    have h3 := own_cut h2 (Lib.compact zs).length hle
    rw [List.map_append, List.take_left' (by simp)] at h3
    exact h3
set_option maxRecDepth 100000 in
set_option maxHeartbeats 8000000 in
theorem Missing_any (A : Option Addr) (n c : Nat) (os : List OV) (w : World) (hO : ObsR w A n c os) : Calls Try.prog 37 #[.slice A n c] w (SPost w (listedO os) (missR os)) := by
  have hl := hO.sl.len
  have HP := hide (open_any A n c os w hO)
  have HL := hide hl
  have HO := hide hO
  clear hO hl
  go_enter Try.func37, Try.ntmps37
  go_wp2_with fail
  refine HP.out.mono ?_
  rintro e w1 ⟨hq1, hcase⟩
  rcases hcase with ⟨hne, rfl⟩ | ⟨h0, As, cs, mb, rfl, hown, hmp⟩
  · have dz : ((listedO os : Int) != 0) = true := by simp; omega
    have E := hide (show missR os = [] by unfold missR; rw [if_neg hne])
    clear hne
    go_wp2_with fail
    go_ret2
    exact ⟨_, rfl, by rw [E.out]; exact World.ownsRow_nil _ _ _ _, hq1.alloc _⟩
  · obtain ⟨As', cs', e', h1, hc, _, hr⟩ := own_form hown
    cases e'
    have dz : ((listedO os : Int) != 0) = false := by rw [h0]; rfl
    obtain ⟨T, hT⟩ : ∃ T, tabF 0 0 os = T := ⟨_, rfl⟩
    obtain ⟨w2, hw2⟩ : ∃ w2, w1.alloc (.cells #[.slice A n c, .slice As (n + 1) cs, .map (some mb)] 78) = w2 := ⟨_, rfl⟩
    have hq2 : Q w1 w2 := by rw [← hw2]; exact (Q.refl w1).alloc _
    obtain ⟨h8, hv⟩ := listed_zero2 h0
    have hb2 : w2.heap[w1.heap.size]? = some (.cells #[.slice A n c, .slice As (n + 1) cs, .map (some mb)] 78 (0, 0)) := by rw [← hw2]; exact heap_alloc_new w1 _
    have hs2 : w1.heap.size < w2.heap.size := by rw [← hw2]; simp
    have K2 := hide (cell_blkJ (j := 2) hb2 rfl)
    have HW2 := hide hw2
    have H0 := hide h0
    have HV := hide hv
    have HE := hide (show missR os = putT (missL T os) by unfold missR; rw [if_pos h0, hT])
    rw [hT] at hmp
    have HM := hide (hmp.up hq2)
    have HQ2 := hide (hq1.trans hq2)
    have HN := hide (show ∀ k, (missL T (os.take k)).length ≤ 128 from fun k => by
      have a := missL_len T (os.take k) (fun o ho => wants_le (hv o (List.mem_of_mem_take ho)))
      have b : (os.take k).length ≤ 8 := by rw [List.length_take]; omega
      omega)
    have hn8 : n ≤ 8 := by have := HL.out; omega
    have hni : (n : Int) ≤ 8 := by omega
    clear hw2 hv h8 hown hmp hr hb2 hT hc h1 hq1 hq2
    go_wp2_with fail
    rw [HW2.out]
    clear dz h0
    go_loopw [6, 23] (fun v6 vi wr => ∃ k : Nat, k ≤ n ∧ vi = .int .i64 k ∧ Q w2 wr ∧ wr.ownsRow w2.heap.size 9 1 v6 (missL T (os.take k)).length ((missL T (os.take k)).map encStr)) (fun _ vi _ => n - (intOf vi).toNat)
    case atStart => exact ⟨0, by omega, by go_num, Q.refl _, World.ownsRow_nil _ _ _ _⟩
    case round =>
      obtain ⟨k, hk, rfl, hq, hrow⟩ := hrel
      have hml := HN.out k
      obtain ⟨ml, hmle⟩ : ∃ ml, missL T (os.take k) = ml := ⟨_, rfl⟩
      rw [hmle] at hrow hml
      have HML := hide hmle
      have HQ := hide hq
      have HW := hide (HQ2.out.trans hq)
      have hszw := hq.size
      clear hmle hq
      by_cases hlt : k < n
      · have hd1 : decide ((k : Int) < (n : Int)) = true := by simp; omega
        have hd0 : decide (k < n) = true := by simp; omega
        have hlti : (k : Int) < (n : Int) := by omega
        obtain ⟨b1, o1, ob, rfl, hbw, g1, x1, x2, x3, hob⟩ := HO.out.at_ k hlt
        obtain ⟨⟨A0, n0, c0, bs⟩, ⟨A1, n1, c1, ss⟩, ⟨A2, n2, c2, ws⟩⟩ := ob
        have hwl := wants_le (HV.out _ (List.mem_of_getElem? g1))
        have htl := hob.t.len
        dsimp only at x1 x2 x3 hwl htl
        have x1 := (HW.out.facts.1 _ _ hbw).trans x1
        have x2 := (HW.out.facts.1 _ _ hbw).trans x2
        have x3 := (HW.out.facts.1 _ _ hbw).trans x3
        have hb1 : b1 < wr.heap.size := by have := HW.out.size; omega
        have hn2i : (n2 : Int) ≤ 16 := by omega
        have HOB := hide hob
        have HST := hide (missL_step (T := T) g1)
        have HTL := hide htl
        have HROW := hide (hrow.alloc (.cells #[.slice A0 n0 c0, .slice A1 n1 c1, .slice A2 n2 c2] 34))
        have HQA := hide (HQ.out.alloc (.cells #[.slice A0 n0 c0, .slice A1 n1 c1, .slice A2 n2 c2] 34))
        clear hob g1 hrow
        go_wp2_with fail
        clear hd1 hd0
        go_loopw [6, 30] (fun v6 vi wx => ∃ j : Nat, j ≤ n2 ∧ vi = .int .i64 j ∧ Q w2 wx ∧ wx.ownsRow w2.heap.size 9 1 v6 (ml ++ missW T (ws.take j)).length ((ml ++ missW T (ws.take j)).map encStr)) (fun _ vi _ => n2 - (intOf vi).toNat)
        case atStart => exact ⟨0, by omega, by go_num, HQA.out, by have h := HROW.out; simpa [missW] using h⟩
        case round =>
          clear x1 x2 x3 hb1
          obtain ⟨j, hj, rfl, hqx, hrx⟩ := hrel
          obtain ⟨wx, rfl⟩ : ∃ wx : World, wx = wr := ⟨_, rfl⟩
          have hszx := hqx.size
          have kx2 : wx.cell? ⟨w1.heap.size, 2, none⟩ = some (.map (some mb)) := (hqx.facts.1 _ _ hs2).trans K2.out
          have hx1 : w1.heap.size < wx.heap.size := by omega
          have hmwl := missW_len T (ws.take j)
          rw [List.length_take] at hmwl
          obtain ⟨A6, c6, e6, hc60, hc6, _⟩ := own_form hrx
          subst e6
          unfold maxLen at hc6
          have HQX := hide hqx
          have HRX := hide hrx
          clear hqx hrx
          by_cases hjn : j < n2
          · have hd1 : decide ((j : Int) < (n2 : Int)) = true := by simp; omega
            have hd0 : decide (j < n2) = true := by simp; omega
            have hjni : (j : Int) < (n2 : Int) := by omega
            obtain ⟨b4, o4, at_, kd, nm, e4, hb4, g4, y1, y2, y3⟩ := (HOB.out.t.up (HQ2.out.trans HQX.out)).wnt j hjn
            dsimp only at e4 y1 y2 y3 g4
            subst e4
            have HMS := hide (missW_step (T := T) g4)
            have hnm : nm.size ≤ 9223372036854775807 := by have := HOB.out.tok _ (List.mem_of_getElem? g4); dsimp only at this; omega
            have HM8 := hide ((HM.out.up HQX.out).up ((Q.refl wx).alloc (.cells #[.int .i64 at_, .int .i64 kd, .string nm] 97)))
            clear g4
            cases hlk : lookS T nm with
            | none =>
              have HK := hide hlk
              have HML2 := hide (show ml ++ missW T (ws.take (j + 1)) = ml ++ missW T (ws.take j) ++ [bl nm] by rw [HMS.out]; dsimp only; rw [hlk, List.append_assoc]; rfl)
              obtain ⟨L, hL⟩ : ∃ L, ml ++ missW T (ws.take j) = L := ⟨_, rfl⟩
              rw [hL] at HRX HML2
              have hLl : L.length ≤ 144 := by rw [← hL, List.length_append]; omega
              have HRB := hide ((HRX.out.alloc (.cells #[.int .i64 at_, .int .i64 kd, .string nm] 97)).alloc (.cells #[.int .i64 0, .int .i64 0] 106))
              have HQB := hide ((HQX.out.alloc (.cells #[.int .i64 at_, .int .i64 kd, .string nm] 97)).alloc (.cells #[.int .i64 0, .int .i64 0] 106))
              have hrl : (ml ++ missW T (ws.take j)).length = L.length := by rw [hL]
              rw [hrl] at *
              clear hlk hL hrl hc60 hc6 HMS hmwl
              go_wp2_with (first | (at_lookup; refine wpList_lookN rfl _ _ rfl rfl HM8.out nm rfl hnm HK.out ?_) | (at_builtin; refine wpList_app1g rfl El_text _ _ rfl rfl HRB.out (by simp) rfl rfl ?_ ?_ ?_ ?_; (focus (simp [Value.oneCell'])); (focus omega); (focus (simp; omega)); intro v9 w9 hown9 hg9; have HQ9 := hide (q_grown HQB.out hg9 (fun k e => (HRB.out.lt k e).1)); have HR9 := hide hown9; clear hown9 hg9))
              go_roundw
              case rel => exact ⟨j + 1, by omega, by go_num, HQ9.out, by rw [HML2.out, List.map_append, List.length_append]; exact HR9.out⟩
              case measure => simp [intOf] <;> omega
            | some pq =>
              obtain ⟨p, q⟩ := pq
              have HK := hide hlk
              have HML2 := hide (show ml ++ missW T (ws.take (j + 1)) = ml ++ missW T (ws.take j) by rw [HMS.out]; dsimp only; rw [hlk]; rfl)
              have HRB := hide ((HRX.out.alloc (.cells #[.int .i64 at_, .int .i64 kd, .string nm] 97)).alloc (.cells #[.int .i64 p, .int .i64 q] 106))
              have HQB := hide ((HQX.out.alloc (.cells #[.int .i64 at_, .int .i64 kd, .string nm] 97)).alloc (.cells #[.int .i64 p, .int .i64 q] 106))
              clear hlk hc60 hc6 HMS hmwl
              go_wp2_with (at_lookup; refine wpList_lookF rfl _ _ rfl rfl HM8.out nm rfl hnm HK.out ?_)
              go_roundw
              case rel => exact ⟨j + 1, by omega, by go_num, HQB.out, by rw [HML2.out]; have h := HRB.out; simp only [List.length_append] at h ⊢; exact h⟩
              case measure => simp [intOf] <;> omega
          · have hd1 : decide ((j : Int) < (n2 : Int)) = false := by simp; omega
            have hd0 : decide (j < n2) = false := by simp; omega
            obtain rfl : j = n2 := by omega
            have HE2 := hide (show missL T (os.take (k + 1)) = ml ++ missW T (ws.take j) by rw [HST.out, HML.out, List.take_of_length_le (by have := HTL.out; omega)])
            clear hc60 hc6 hmwl
            go_wp2_with fail
            go_roundw
            case rel => exact ⟨k + 1, by omega, by go_num, HQX.out, by rw [HE2.out]; have h := HRX.out; simp only [List.length_append] at h ⊢; exact h⟩
            case measure => simp [intOf] <;> omega
      · have hd1 : decide ((k : Int) < (n : Int)) = false := by simp; omega
        have hd0 : decide (k < n) = false := by simp; omega
        obtain rfl : k = n := by omega
        have HE2 := hide (show missR os = sortT ml by rw [HE.out, sortT_eq, ← HML.out, List.take_of_length_le (by rw [HL.out]; exact Nat.le_refl _)])
        clear HE HML hlt
        rcases hrow.2 with ⟨rfl, hl0⟩ | ⟨g, cap, cur, rfl, hg, hh, hn, hc, hs, ht⟩
        · have hml0 : ml.length = 0 := by simpa using hl0
          obtain rfl := List.eq_nil_of_length_eq_zero hml0
          have C1 := hide (fun W => Try.slices_Sort_string_none none 0 W)
          have C2 := hide (fun W => Try.slices_Compact_string_empty none 0 W)
          have HE3 := hide (show missR os = [] by rw [HE2.out, sortT_eq]; rfl)
          clear hrow
          go_wp2_with fail
          refine (C1.out _).mono ?_
          rintro e w3 ⟨rfl, rfl⟩
          go_wp2_with fail
          refine (C2.out _).mono ?_
          rintro e w4 ⟨rfl, rfl⟩
          go_wp2_with fail
          go_ret2
          exact ⟨_, by rw [H0.out]; rfl, by rw [HE3.out]; exact World.ownsRow_nil _ _ _ _, HW.out⟩
        · have C1 := hide (sorted_own hrow (by omega))
          have HRow := hide hrow
          have hgw := hg
          clear hrow hg hh hn hc hs ht
          go_wp2_with fail
          refine C1.out.mono ?_
          rintro e w3 ⟨rfl, hg3, hown3⟩
          have HQ3 := hide (q_grown HQ.out hg3 (fun k e => by cases e; exact hgw))
          have hml2 : (ml.mergeSort fun x y => decide (x ≤ y)).length = ml.length := by simp
          rw [← hml2] at hown3 
          have C2 := hide (compact_own hown3 (by omega))
          rw [hml2] at C2
          have HCE := hide (show Lib.compact (ml.mergeSort fun x y => decide (x ≤ y)) = sortT ml from rfl)
          rw [HCE.out] at C2
          clear hg3 hown3 hml2
          go_wp2_with fail
          refine C2.out.mono ?_
          rintro e w4 ⟨rfl, hg4, hown4⟩
          have HQ4 := hide (q_grown HQ3.out hg4 (fun k e => by cases e; exact hgw))
          have HR4 := hide hown4
          clear hg4 hown4
          go_wp2_with fail
          go_ret2
          exact ⟨_, by rw [H0.out]; rfl, by rw [HE2.out]; exact own_base2 HR4.out HQ2.out.size, HQ2.out.trans HQ4.out⟩
end Go.Proofs.Ytiilkiggfjpibaa

namespace Go.Proofs.Ytiilkiggfjpibaa
open Go.RowKit LK
set_option linter.unusedVariables false
set_option linter.unusedSimpArgs false
theorem insT_len (s : Tx) : ∀ l : List Tx, (insT s l).length ≤ l.length + 1
  | [] => by simp [insT]
  | x :: r => by
    have := insT_len s r
    unfold insT
    split
    · simp
    · split <;> simp <;> omega
theorem insT_at {s x : Tx} {l : List Tx} {i : Nat} (h : l[i]? = some x) : insT s (l.drop i) = if s < x then s :: l.drop i else if x = s then l.drop i else x :: insT s (l.drop (i + 1)) := by
  obtain ⟨hi, e⟩ := List.getElem?_eq_some_iff.1 h
  rw [List.drop_eq_getElem_cons hi, e, insT]
theorem drop_at {x : Tx} {l : List Tx} {i : Nat} (h : l[i]? = some x) : l.drop i = x :: l.drop (i + 1) := by
  obtain ⟨hi, e⟩ := List.getElem?_eq_some_iff.1 h
  rw [List.drop_eq_getElem_cons hi, e]
def tb (x : Tx) : ByteArray := ⟨x.toArray⟩
theorem tb_list (x : Tx) : (tb x).toList = x := by rw [Lib.toList_data]; rfl
theorem bl_list (s : ByteArray) : bl s = s.toList := by rw [Lib.toList_data]; rfl
set_option maxRecDepth 100000 in
set_option maxHeartbeats 4000000 in
theorem rput_any (A : Option Addr) (n c : Nat) (set : List Tx) (s : ByteArray) (w : World) (hR : Rd w w.heap.size A (set.map encStr)) (hl : set.length = n) (hn : n ≤ 1000) :
    Calls Try.prog 97 #[.slice A n c, .string s] w fun e w' => ∃ v, e = .returned v ∧ w'.ownsRow w.heap.size 9 1 v (insT (bl s) set).length ((insT (bl s) set).map encStr) ∧ Q w w' := by
  have HR := hide hR
  have HL := hide hl
  obtain ⟨R, hRR⟩ : ∃ R, insT (bl s) set = R := ⟨_, rfl⟩
  rw [hRR]
  have HRR := hide hRR
  have hni : (n : Int) ≤ 1000 := by omega
  clear hR hRR hl
  go_enter Try.func97, Try.ntmps97
  go_wp2_with fail
  go_loopw [5, 6, 7] (fun v5 vd vi wr => ∃ (i : Nat) (out : List Tx) (d : Bool), i ≤ n ∧ vd = .bool d ∧ vi = .int .i64 i ∧ R = out ++ (if d then set.drop i else insT (bl s) (set.drop i)) ∧ out.length ≤ i + (if d = true then 1 else 0) ∧ wr.ownsRow w.heap.size 9 1 v5 out.length (out.map encStr) ∧ Q w wr) (fun _ _ vi _ => n - (intOf vi).toNat)
  case atStart => exact ⟨0, [], false, by omega, rfl, by go_num, by rw [← HRR.out]; rfl, by simp, World.ownsRow_nil _ _ _ _, Q.refl _⟩
  case round =>
    obtain ⟨i, out, d, hi, rfl, rfl, hR, hol, hown, hq⟩ := hrel
    have HRD := hide hR
    have HQ := hide hq
    have HOW := hide hown
    have hsz := hq.size
    clear hR hown hq
    by_cases hlt : i < n
    · have hd1 : decide ((i : Int) < (n : Int)) = true := by simp; omega
      have hd0 : decide (i < n) = true := by simp; omega
      have hlti : (i : Int) < (n : Int) := by omega
      obtain ⟨b, o, rfl, hb, hc⟩ := HR.out.at_ (by rw [List.length_map]; have := HL.out; omega)
      obtain ⟨x, hx⟩ : ∃ x, set[i]? = some x := ⟨_, List.getElem?_eq_getElem (by have := HL.out; omega)⟩
      have hcw : w.cell? ⟨b, o + i, none⟩ = some (.string (tb x)) := by
        rw [hc i (by rw [List.length_map]; have := HL.out; omega)]
        simp only [List.getElem_map]
        obtain ⟨_, e⟩ := List.getElem?_eq_some_iff.1 hx
        rw [e]
        rfl
      have hcx := (HQ.out.facts.1 _ _ hb).trans hcw
      have HCW := hide hcw
      have HB := hide hb
      have hbw : b < wr.heap.size := by omega
      have HX := hide hx
      clear hc hx hb hcw
      cases d with
      | true =>
        simp only [if_true] at hol
        have HN := hide (show R = (out ++ [x]) ++ set.drop (i + 1) by rw [HRD.out, if_pos rfl, drop_at HX.out]; simp)
        go_wp2_with (at_builtin; refine wpList_app1 rfl El_text _ _ rfl rfl HOW.out rfl rfl rfl ?_ ?_ ?_ ?_; (focus (simp [Value.oneCell'])); (focus omega); (focus omega); intro v7 w7 hown7 hb7; have HO7 := hide hown7; have HB7 := hide (show Q w w7 from HQ.out.below.trans hb7); clear hown7 hb7)
        go_roundw
        case rel => exact ⟨i + 1, out ++ [x], true, by omega, rfl, by go_num, by rw [HN.out]; rfl, by simp; omega, by have h := HO7.out; simp at h ⊢; exact h, HB7.out⟩
        case measure => simp [intOf] <;> omega
      | false =>
        simp only [Bool.false_eq_true, if_false] at hol
        have hst := insT_at (s := bl s) HX.out
        by_cases h1 : bl s < x
        · have t1 : Op.bytesLess (tb x).toList s.toList = false := by rw [Go.Proofs.bytesLess_eq, tb_list, ← bl_list]; simp; exact List.le_of_lt h1
          have t2 : ((tb x).toList == s.toList) = false := by rw [tb_list, ← bl_list]; simp; intro e; exact tlt_irr _ (e ▸ h1)
          have HN := hide (show R = (out ++ [bl s] ++ [x]) ++ set.drop (i + 1) by rw [HRD.out]; simp only [Bool.false_eq_true, if_false]; rw [hst, if_pos h1, drop_at HX.out]; simp)
          clear hst h1
          go_wp2_with (at_builtin; first
            | (refine wpList_app1 rfl El_text _ _ rfl rfl HOW.out rfl rfl rfl ?_ ?_ ?_ ?_; (focus (simp [Value.oneCell'])); (focus omega); (focus omega); intro v6 w6 hown6 hb6; have HO6 := hide hown6; have HB6 := hide (show Q w w6 from HQ.out.below.trans hb6); have hc6 := (HB6.out.facts.1 _ _ HB.out).trans HCW.out; have hb6' : b < w6.heap.size := Nat.lt_of_lt_of_le HB.out HB6.out.size; clear hown6 hb6)
            | (refine wpList_app1 rfl El_text _ _ rfl rfl HO6.out rfl rfl rfl ?_ ?_ ?_ ?_; (focus (simp [Value.oneCell'])); (focus omega); (focus (exact HB6.out.size)); intro v7 w7 hown7 hb7; have HO7 := hide hown7; have HB7 := hide (show Q w w7 from HB6.out.below.trans hb7); clear hown7 hb7))
          go_roundw
          case rel => exact ⟨i + 1, out ++ [bl s] ++ [x], true, by omega, rfl, by go_num, by rw [HN.out]; rfl, by simp; omega, by have h := HO7.out; simp at h ⊢; exact h, HB7.out⟩
          case measure => simp [intOf] <;> omega
        · by_cases h2 : x = bl s
          · have t1 : Op.bytesLess (tb x).toList s.toList = false := by rw [Go.Proofs.bytesLess_eq, tb_list, ← bl_list, h2]; simp
            have t2 : ((tb x).toList == s.toList) = true := by rw [tb_list, ← bl_list, h2]; simp
            have HN := hide (show R = (out ++ [x]) ++ set.drop (i + 1) by rw [HRD.out]; simp only [Bool.false_eq_true, if_false]; rw [hst, if_neg h1, if_pos h2, drop_at HX.out]; simp)
            clear hst h1 h2
            go_wp2_with (at_builtin; refine wpList_app1 rfl El_text _ _ rfl rfl HOW.out rfl rfl rfl ?_ ?_ ?_ ?_; (focus (simp [Value.oneCell'])); (focus omega); (focus omega); intro v7 w7 hown7 hb7; have HO7 := hide hown7; have HB7 := hide (show Q w w7 from HQ.out.below.trans hb7); clear hown7 hb7)
            go_roundw
            case rel => exact ⟨i + 1, out ++ [x], true, by omega, rfl, by go_num, by rw [HN.out]; rfl, by simp; omega, by have h := HO7.out; simp at h ⊢; exact h, HB7.out⟩
            case measure => simp [intOf] <;> omega
          · have t1 : Op.bytesLess (tb x).toList s.toList = true := by rw [Go.Proofs.bytesLess_eq, tb_list, ← bl_list]; simp; exact tlt_of_not h1 h2
            have t2 : ((tb x).toList == s.toList) = false := by rw [tb_list, ← bl_list]; simpa using h2
            have HN := hide (show R = (out ++ [x]) ++ insT (bl s) (set.drop (i + 1)) by rw [HRD.out]; simp only [Bool.false_eq_true, if_false]; rw [hst, if_neg h1, if_neg h2]; simp)
            clear hst h1 h2
            go_wp2_with (at_builtin; refine wpList_app1 rfl El_text _ _ rfl rfl HOW.out rfl rfl rfl ?_ ?_ ?_ ?_; (focus (simp [Value.oneCell'])); (focus omega); (focus omega); intro v7 w7 hown7 hb7; have HO7 := hide hown7; have HB7 := hide (show Q w w7 from HQ.out.below.trans hb7); clear hown7 hb7)
            go_roundw
            case rel => exact ⟨i + 1, out ++ [x], false, by omega, rfl, by go_num, by rw [HN.out]; rfl, by simp; omega, by have h := HO7.out; simp at h ⊢; exact h, HB7.out⟩
            case measure => simp [intOf] <;> omega
    · have hd1 : decide ((i : Int) < (n : Int)) = false := by simp; omega
      have hd0 : decide (i < n) = false := by simp; omega
      obtain rfl : i = n := by omega
      have hdr : set.drop i = [] := List.drop_eq_nil_of_le (by have := HL.out; omega)
      cases d with
      | true =>
        simp only [if_true] at hol
        have HN := hide (show R = out by rw [HRD.out, if_pos rfl, hdr]; simp)
        clear hdr
        go_wp2_with fail
        go_ret
        exact ⟨_, rfl, by rw [HN.out]; exact HOW.out, HQ.out⟩
      | false =>
        simp only [Bool.false_eq_true, if_false] at hol
        have HN := hide (show R = out ++ [bl s] by rw [HRD.out]; simp only [Bool.false_eq_true, if_false]; rw [hdr]; rfl)
        clear hdr
        go_wp2_with (at_builtin; refine wpList_app1 rfl El_text _ _ rfl rfl HOW.out rfl rfl rfl ?_ ?_ ?_ ?_; (focus (simp [Value.oneCell'])); (focus omega); (focus omega); intro v7 w7 hown7 hb7; have HO7 := hide hown7; have HB7 := hide (show Q w w7 from HQ.out.below.trans hb7); clear hown7 hb7)
        go_ret
        exact ⟨_, rfl, by rw [HN.out]; have h := HO7.out; simp at h ⊢; exact h, HB7.out⟩
set_option maxRecDepth 100000 in
set_option maxHeartbeats 4000000 in
theorem rmissing_any (A : Option Addr) (n c : Nat) (os : List OV) (w : World) (hO : ObsR w A n c os) (hn : n ≤ 8) (hv : ∀ o ∈ os, o.valid = 0) :
    Calls Try.prog 76 #[.slice A n c] w fun e w' => ∃ v, e = .returned v ∧ w'.ownsRow w.heap.size 9 1 v (putT (missL (tabF 0 0 os) os)).length ((putT (missL (tabF 0 0 os) os)).map encStr) ∧ Q w w' := by
  have hl := hO.sl.len
  have HL := hide hl
  have HO := hide hO
  have HV := hide hv
  have hni : (n : Int) ≤ 8 := by omega
  have HAD := hide (fun wx (hq : Q w wx) s => address_any A n c os s wx (hO.up hq) hn hv)
  obtain ⟨T, hT⟩ : ∃ T, tabF 0 0 os = T := ⟨_, rfl⟩
  rw [hT]
  have HT := hide hT
  have HN := hide (show ∀ k, (missL T (os.take k)).length ≤ 128 from fun k => by
    have a := missL_len T (os.take k) (fun o ho => wants_le (hv o (List.mem_of_mem_take ho)))
    have b : (os.take k).length ≤ 8 := by rw [List.length_take]; omega
    omega)
  clear hO hl hv hT
  go_enter Try.func76, Try.ntmps76
  go_wp2_with fail
  go_loopw [3, 4] (fun v3 vi wr => ∃ k : Nat, k ≤ n ∧ vi = .int .i64 k ∧ Q w wr ∧ wr.ownsRow w.heap.size 9 1 v3 (putT (missL T (os.take k))).length ((putT (missL T (os.take k))).map encStr)) (fun _ vi _ => n - (intOf vi).toNat)
  case atStart => exact ⟨0, by omega, by go_num, Q.refl _, World.ownsRow_nil _ _ _ _⟩
  case round =>
    obtain ⟨k, hk, rfl, hq, hrow⟩ := hrel
    have hml := HN.out k
    obtain ⟨ml, hmle⟩ : ∃ ml, missL T (os.take k) = ml := ⟨_, rfl⟩
    rw [hmle] at hrow hml
    have HML := hide hmle
    have HQ := hide hq
    have hszw := hq.size
    have HROW := hide hrow
    clear hmle hq hrow
    by_cases hlt : k < n
    · have hd1 : decide ((k : Int) < (n : Int)) = true := by simp; omega
      have hd0 : decide (k < n) = true := by simp; omega
      have hlti : (k : Int) < (n : Int) := by omega
      obtain ⟨b1, o1, ob, rfl, hbw, g1, x1, x2, x3, hob⟩ := HO.out.at_ k hlt
      obtain ⟨⟨A0, n0, c0, bs⟩, ⟨A1, n1, c1, ss⟩, ⟨A2, n2, c2, ws⟩⟩ := ob
      have hwl := wants_le (HV.out _ (List.mem_of_getElem? g1))
      have htl := hob.t.len
      dsimp only at x1 x2 x3 hwl htl
      have hn2i : (n2 : Int) ≤ 16 := by omega
      have HOB := hide hob
      have HST := hide (missL_step (T := T) g1)
      have HTL := hide htl
      have X3 := hide x3
      have HBW := hide hbw
      clear hob g1 x1 x2 x3 hbw
      go_wp2_with fail
      clear hd1 hd0
      go_loopw [3, 5] (fun v3 vi wx => ∃ j : Nat, j ≤ n2 ∧ vi = .int .i64 j ∧ Q w wx ∧ wx.ownsRow w.heap.size 9 1 v3 (putT (ml ++ missW T (ws.take j))).length ((putT (ml ++ missW T (ws.take j))).map encStr)) (fun _ vi _ => n2 - (intOf vi).toNat)
      case atStart => exact ⟨0, by omega, by go_num, HQ.out, by have h := HROW.out; simpa [missW] using h⟩
      case round =>
        obtain ⟨j, hj, rfl, hqx, hrx⟩ := hrel
        obtain ⟨wx, rfl⟩ : ∃ wx : World, wx = wr := ⟨_, rfl⟩
        have hszx := hqx.size
        have x3 := (hqx.facts.1 _ _ HBW.out).trans X3.out
        have hb1 : b1 < wx.heap.size := by have := HBW.out; omega
        have hmwl := missW_len T (ws.take j)
        rw [List.length_take] at hmwl
        have hpl := putT_len (ml ++ missW T (ws.take j))
        rw [List.length_append] at hpl
        obtain ⟨L, hL⟩ : ∃ L, putT (ml ++ missW T (ws.take j)) = L := ⟨_, rfl⟩
        rw [hL] at hrx hpl
        obtain ⟨A6, c6, e6, hc60, hc6, _, hrd⟩ := own_form hrx
        subst e6
        unfold maxLen at hc6
        have HQX := hide hqx
        have HRX := hide hrx
        have HLL := hide hL
        clear hqx hrx hL
        by_cases hjn : j < n2
        · have hd1 : decide ((j : Int) < (n2 : Int)) = true := by simp; omega
          have hd0 : decide (j < n2) = true := by simp; omega
          have hjni : (j : Int) < (n2 : Int) := by omega
          obtain ⟨b4, o4, at_, kd, nm, e4, hb4, g4, y1, y2, y3⟩ := (HOB.out.t.up HQX.out).wnt j hjn
          dsimp only at e4 y1 y2 y3 g4
          subst e4
          have HMS := hide (missW_step (T := T) g4)
          have HC := hide (HAD.out wx HQX.out nm)
          have hex : addrR os nm = match lookS T nm with | some (_, b) => (b, true) | none => (0, false) := by unfold addrR; rw [HT.out]; rfl
          have HY3 := hide ((HOB.out.t).wnt j hjn)
          clear g4
          have HC3 := hide (HOB.out.t.up HQX.out)
          clear HY3
          cases hlk : lookS T nm with
          | none =>
            rw [hlk] at hex
            rw [hex] at HC
            have HML2 := hide (show putT (ml ++ missW T (ws.take (j + 1))) = insT (bl nm) L by rw [HMS.out]; dsimp only; rw [hlk, ← HLL.out, ← putT_snoc, List.append_assoc]; rfl)
            have HRD := hide hrd
            have HLn := hide (show L.length ≤ 1000 by omega)
            clear hlk hex hrd hc60 hc6 HMS hmwl hpl
            go_wp2_with fail
            refine HC.out.mono ?_
            rintro e w4 ⟨rfl, hq4⟩
            have HQ4 := hide (HQX.out.trans hq4)
            have x3 := (hq4.facts.1 _ _ hb1).trans x3
            have y3 := (hq4.facts.1 _ _ hb4).trans y3
            have hb1 : b1 < w4.heap.size := by have := hq4.size; omega
            have hb4 : b4 < w4.heap.size := by have := hq4.size; omega
            have HPT := hide (rput_any A6 L.length c6 L nm w4 (HRD.out.up hq4) rfl HLn.out)
            clear hq4
            go_wp2_with fail
            refine HPT.out.mono ?_
            rintro e w5 ⟨v5, rfl, hown5, hq5⟩
            have HQ5 := hide (HQ4.out.trans hq5)
            have HR5 := hide (own_base2 hown5 HQ4.out.size)
            clear hown5 hq5
            go_wp2_with fail
            go_roundw
            case rel => exact ⟨j + 1, by omega, by go_num, HQ5.out, by rw [HML2.out]; exact HR5.out⟩
            case measure => simp [intOf] <;> omega
          | some pq =>
            obtain ⟨p, q⟩ := pq
            rw [hlk] at hex
            rw [hex] at HC
            have HML2 := hide (show putT (ml ++ missW T (ws.take (j + 1))) = L by rw [HMS.out]; dsimp only; rw [hlk, ← HLL.out]; rfl)
            clear hlk hex hrd hc60 hc6 HMS hmwl hpl
            go_wp2_with fail
            refine HC.out.mono ?_
            rintro e w4 ⟨rfl, hq4⟩
            have HQ4 := hide (HQX.out.trans hq4)
            have HR4 := hide (own_q HRX.out hq4)
            clear hq4
            go_wp2_with fail
            go_roundw
            case rel => exact ⟨j + 1, by omega, by go_num, HQ4.out, by rw [HML2.out]; exact HR4.out⟩
            case measure => simp [intOf] <;> omega
        · have hd1 : decide ((j : Int) < (n2 : Int)) = false := by simp; omega
          have hd0 : decide (j < n2) = false := by simp; omega
          obtain rfl : j = n2 := by omega
          have HE2 := hide (show missL T (os.take (k + 1)) = ml ++ missW T (ws.take j) by rw [HST.out, HML.out, List.take_of_length_le (by have := HTL.out; omega)])
          clear hc60 hc6 hmwl hrd hpl
          go_wp2_with fail
          go_roundw
          case rel => exact ⟨k + 1, by omega, by go_num, HQX.out, by rw [HE2.out, HLL.out]; exact HRX.out⟩
          case measure => simp [intOf] <;> omega
    · have hd1 : decide ((k : Int) < (n : Int)) = false := by simp; omega
      have hd0 : decide (k < n) = false := by simp; omega
      obtain rfl : k = n := by omega
      have HE2 := hide (show missL T os = ml by rw [← HML.out, List.take_of_length_le (by rw [HL.out]; exact Nat.le_refl _)])
      go_wp2_with fail
      go_ret
      exact ⟨_, rfl, by rw [HE2.out]; exact HROW.out, HQ.out⟩
theorem rMissing_any (A : Option Addr) (n c : Nat) (os : List OV) (w : World) (hO : ObsR w A n c os) : Calls Try.prog 38 #[.slice A n c] w (SPost w (listedO os) (missR os)) := by
  have hl := hO.sl.len
  have HP := hide (rlisted_any A n c os w hO)
  have HL := hide hl
  have HO := hide hO
  clear hO
  by_cases h0 : listedO os = 0
  · have E := hide (show missR os = putT (missL (tabF 0 0 os) os) by unfold missR; rw [if_pos h0])
    obtain ⟨h8, hval⟩ := listed_zero2 h0
    have HS := hide (fun W hQ => rmissing_any A n c os W (HO.out.up hQ) (by omega) hval)
    rw [h0] at HP
    have E0 := hide h0
    clear h0 h8 hval hl
    go_enter Try.func38, Try.ntmps38
    go_wp2_with fail
    refine HP.out.mono ?_
    rintro e w1 ⟨rfl, hq1⟩
    go_wp2_with fail
    refine (HS.out _ hq1).mono ?_
    rintro e w2 ⟨v2, rfl, hown2, hq2⟩
    go_wp2_with fail
    go_ret2
    exact ⟨_, by rw [E0.out]; rfl, by rw [E.out]; exact own_base2 hown2 hq1.size, hq1.trans hq2⟩
  · have dz : ((listedO os : Int) != 0) = true := by simp; omega
    have E := hide (show missR os = [] by unfold missR; rw [if_neg h0])
    clear h0 hl
    go_enter Try.func38, Try.ntmps38
    go_wp2_with fail
    refine HP.out.mono ?_
    rintro e w1 ⟨rfl, hq1⟩
    go_wp2_with fail
    go_ret2
    exact ⟨_, rfl, by rw [E.out]; exact World.ownsRow_nil _ _ _ _, hq1⟩
end Go.Proofs.Ytiilkiggfjpibaa
