/- Behind the library's sort by a comparison, at elements of k cells: the same slice owns a permutation that ascends. Conditions: as each theorem says. -/
import Derived.Test.YtiilkiggfjpibaaBase
import Derived.Shelf.SlSortCmp.WholeK
import Derived.Sort.OwnSorted
namespace Go.Proofs.Ytiilkiggfjpibaa
open Go.RowKit Go.Sort
set_option linter.unusedVariables false
set_option linter.unusedSimpArgs false
theorem holds_blk {w : World} {g : Nat} {cur : Array Value} {e : TypeId} {vs : List Value} (hb : w.heap[g]? = some (.cells cur e (0, 0))) (ht : cur.toList.take vs.length = vs) : Holds id w g 0 vs.toArray := by
  intro j hj
  have hj' : j < vs.length := by simpa using hj
  refine ⟨?_, by simp [World.frozen?, hb]⟩
  have h1 : (cur.toList.take vs.length)[j]? = vs[j]? := by rw [ht]
  rw [List.getElem?_take_of_lt hj'] at h1
  simp only [World.cell?, hb, Nat.zero_add]
  simp only [Option.isSome_none, Bool.false_eq_true, if_false]
  rw [← Array.getElem?_toList, h1]
  simp [hj']
theorem heap_blk {w : World} {g n : Nat} {os : Array Obj} {cur : Array Value} {e : TypeId} {fr : Nat × Nat} (d : Array Value) (hb : w.heap[g]? = some (.cells cur e fr)) :
    (grow (putRow id (Sort.ahead w n) g 0 d) os).heap[g]? = some (.cells (putCells id 0 d cur) e fr) := by
  have hg : g < w.heap.size := (Array.getElem?_eq_some_iff.1 hb).1
  rw [heap_grow_old _ _ (by simpa using hg)]
  simp [putRow, mapBlock, Sort.ahead, Array.getElem?_modify, hb, onCells]
theorem grownBy_blk {w : World} {g n : Nat} {os : Array Obj} (d : Array Value) : w.grownBy (grow (putRow id (Sort.ahead w n) g 0 d) os) (some g) := by
  refine ⟨rfl, rfl, rfl, by simp, fun k hk hne => ?_⟩
  rw [heap_grow_old _ _ (by simpa using hk)]
  have : g ≠ k := fun e => hne (by rw [e])
  simp [putRow, mapBlock, Sort.ahead, Array.getElem?_modify, this]
theorem take_blk (cur : Array Value) (ts : List Value) (h : ts.length ≤ cur.size) : (putCells id 0 ts.toArray cur).toList.take ts.length = ts := by
  apply List.ext_getElem?
  intro j
  by_cases hj : j < ts.length
  · rw [List.getElem?_take_of_lt hj, Array.getElem?_toList]
    simp [putCells, hj, show j < cur.size by omega]
  · rw [List.getElem?_take_eq_none (by omega), List.getElem?_eq_none (by omega)]
theorem flatK_flat {α : Type} [Inhabited α] (enc : α → List Value) (k : Nat) (hk : ∀ x, (enc x).length = k) (ss : List α) : flatK enc k ss.toArray = (ss.flatMap enc).toArray := by
  have hlen : (ss.flatMap enc).length = ss.length * k := by
    induction ss with
    | nil => simp
    | cons a l ih => simp only [List.flatMap_cons, List.length_append, ih, hk, List.length_cons, Nat.add_mul, Nat.one_mul]; omega
  apply Array.ext
  · simp [hlen]
  intro t h1 h2
  have ht : t < ss.length * k := by simpa using h1
  have hk0 : 0 < k := Nat.pos_of_ne_zero fun h => by rw [h, Nat.mul_zero] at ht; omega
  have hd : t / k < ss.length := Nat.div_lt_of_lt_mul (by rwa [Nat.mul_comm])
  have hm : t % k < k := Nat.mod_lt _ hk0
  have hg := flatMap_get (enc := enc) (k := k) hk ss (t / k) (t % k) ss[t / k] (List.getElem?_eq_getElem hd) hm
  have he : t / k * k + t % k = t := by rw [Nat.mul_comm]; exact Nat.div_add_mod t k
  rw [he] at hg
  have hx : (flatK enc k ss.toArray)[t]! = (enc ss.toArray[t / k]!)[t % k]! := get_flatK enc k ss.toArray t (by simpa using ht)
  rw [getElem!_pos _ t h1] at hx
  rw [hx]
  have e1 : ss.toArray[t / k]! = ss[t / k] := by simp [hd]
  rw [e1]
  have h3 : (ss.flatMap enc)[t]? = some ((ss.flatMap enc).toArray[t]) := by simp
  rw [hg] at h3
  rw [List.getElem!_eq_getElem?_getD, h3]
  rfl
/-- behind the sort: the same slice owns a permutation that ascends -/
theorem sorted_blk {α : Type} [Inhabited α] {enc : α → List Value} {k : Nat} {cf : α → α → Int} {w : World} {base g cap n : Nat} {e : TypeId} {os : Array Obj} {cur : Array Value} {ss : List α} {d' : Array α} (hk : ∀ x, (enc x).length = k) (hbase : base ≤ g) (hb : w.heap[g]? = some (.cells cur e (0, 0)))
    (h1 : ss.length ≤ cap) (h2 : cap ≤ maxLen) (h3 : cur.size = cap * k) (hp : PermIn 0 ss.toArray.size ss.toArray d') (hs : SortedIn (Go.Proofs.ltOf cf) 0 ss.toArray.size d') :
    w.grownBy (Go.Proofs.sortWorldK enc k w g 0 n d' os) (some g) ∧ ∃ ts : List α, ts.Perm ss ∧ ts.Pairwise (fun a b => ¬ cf b a < 0) ∧ (Go.Proofs.sortWorldK enc k w g 0 n d' os).ownsRow base e k (.slice (some ⟨g, 0, none⟩) ss.length cap) ss.length (ts.flatMap enc) := by
  obtain ⟨p1, p2, p3⟩ := hp
  have hsz : d'.size = ss.length := by simpa using p1
  have hperm : d'.toList.Perm ss := by
    have e1 : (d'.extract 0 ss.toArray.size).toList = d'.toList := by
      rw [show ss.toArray.size = d'.size by rw [p1], Array.extract_size]
    have e2 : (ss.toArray.extract 0 ss.toArray.size).toList = ss := by rw [Array.extract_size]
    rw [e1, e2] at p3
    exact p3
  have hlen : (d'.toList.flatMap enc).length = ss.length * k := by
    rw [flatMap_length (k := k) hk]
    simp [hsz]
  have hF : flatK enc k d' = (d'.toList.flatMap enc).toArray := by
    have := flatK_flat enc k hk d'.toList
    simpa using this
  refine ⟨?_, d'.toList, hperm, ?_, ?_⟩
  · exact grownBy_blk (flatK enc k d')
  · rw [List.pairwise_iff_getElem]
    intro i j hi hj hij
    have hj' : j < d'.size := by simpa using hj
    have := hs i j (Nat.zero_le _) hij (by simpa [hsz] using hj')
    unfold Go.Proofs.ltOf at this
    rw [getElem!_pos d' i (by omega), getElem!_pos d' j hj'] at this
    simpa using this
  · have hw : Go.Proofs.sortWorldK enc k w g 0 n d' os = grow (putRow id (Sort.ahead w n) g 0 (d'.toList.flatMap enc).toArray) os := by
      rw [← hF]
      rfl
    rw [hw]
    exact ⟨hlen, .inr ⟨g, cap, _, rfl, hbase, heap_blk _ hb, h1, h2, by simp [putCells, h3], by rw [← hlen]; exact take_blk cur _ (by rw [hlen, h3]; exact Nat.mul_le_mul_right _ h1)⟩⟩
end Go.Proofs.Ytiilkiggfjpibaa
