/- Data of a type that holds itself, opened: readers bounded by the datum's size. Conditions: as each theorem says. -/
import Derived.Test.YtbgbalfhbficaaaBase
namespace Go.Proofs.Ytbgbalfhbficaaa
open Go.ChangeShapes Go.WideShapes Go.ChangeAt Go.RowKit
set_option linter.unusedVariables false
set_option linter.unusedSimpArgs false
/-- a reader for data smaller than Z -/
structure RdrB (Z : Nat) (P : Program) (t : TypeId) (k : Nat) {α : Type} (enc : α → List Value) (ok : World → α → Prop) : Prop where
  len : ∀ a, (enc a).length = k
  cells : P.cellsOf t = k
  read : ∀ {H : Type} {en : TypeId × Value → H} {w : World} {n : Nat} {cs : List Value} {x : DataW H × List MemPlace}, SizeOf.sizeOf x.1 < Z → DataW.trod en P w 0 (fun _ => true) true n t cs = some x → (∀ m ∈ x.1.weights P t, m ≤ 140737488351232) → ∃ a, cs = enc a ∧ ok w a
theorem Rdr.b {P : Program} {t : TypeId} {k : Nat} {α : Type} {enc : α → List Value} {ok : World → α → Prop} (R : Rdr P t k enc ok) (Z : Nat) : RdrB Z P t k enc ok := ⟨R.len, R.cells, fun _ h hm => R.read h hm⟩
theorem RdrB.all {P : Program} {t : TypeId} {k : Nat} {α : Type} {enc : α → List Value} {ok : World → α → Prop} (R : ∀ Z, RdrB Z P t k enc ok) : Rdr P t k enc ok := ⟨(R 0).len, (R 0).cells, fun {H en w n cs x} h hm => (R (SizeOf.sizeOf x.1 + 1)).read (Nat.lt_succ_self _) h hm⟩
section
variable {P : Program} {t e : TypeId} {Z : Nat}
theorem RdrB.slice {k bb : Nat} {α : Type} [Inhabited α] {enc : α → List Value} {ok : World → α → Prop} (R : RdrB Z P e k enc ok) (hk0 : 0 < k) (hu : P.underlying t = some (.slice e)) (hc : P.cellsOf t = 1) (hb : P.bytesOf e = bb) (hb0 : 0 < bb) : RdrB (Z + 1) P t 1 (encV (α := α)) (SlOk k enc ok) :=
  ⟨fun _ => rfl, hc, fun {H en w n cs x} hz h hm => by
    rcases Go.Deep.open_slice hu h with ⟨h1, h2⟩ | ⟨a, len, cap, m, k', D, Pl, h1, _, hl, hcm, hmm, hx, hcell⟩
    · exact ⟨⟨none, 0, 0, []⟩, h1, ⟨Sl.nil w, fun _ => ⟨rfl, rfl⟩, fun x hx => (by cases hx), Nat.zero_le _⟩⟩
    · simp only [if_true] at hmm
      rw [R.cells] at hcell
      have hx1 : x.1 = .slice ((List.range len).map D) ((List.range (m - len)).map fun j => D (len + j)) := by rw [hx]
      have hcap : cap ≤ 140737488351232 := by
        have := hm ((len + (m - len)) * P.bytesOf e) (by rw [hx1]; simp [DataW.weights, hu])
        have h3 : len + (m - len) ≤ (len + (m - len)) * P.bytesOf e := Nat.le_mul_of_pos_right _ (by rw [hb]; exact hb0)
        omega
      obtain ⟨q, hq⟩ := Go.Deep.choose_lt (α := α) (p := fun i y => w.cells? 0 (a.add (i * k)) k = some (enc y) ∧ ok w y) (n := len) (fun i hi => by
        obtain ⟨cs', e1, e2⟩ := hcell i (by omega)
        have hmem : D i ∈ (List.range len).map D := List.mem_map.2 ⟨i, by simp [hi], rfl⟩
        have hsz : SizeOf.sizeOf (D i) < Z := by
          have h3 := List.sizeOf_lt_of_mem hmem
          rw [hx1] at hz
          simp at hz
          omega
        obtain ⟨y, rfl, hy⟩ := R.read hsz e2 (fun m' hm' => hm m' (by
          rw [hx1]
          simp only [DataW.weights, hu, List.mem_cons, List.mem_append]
          exact .inr (.inl (weightsAll_mem' (d := D i) hmem m' hm'))))
        exact ⟨y, e1, hy⟩)
      have hL : (((List.range len).map q).flatMap enc).length = len * k := by rw [flatMap_length R.len]; simp
      refine ⟨⟨some a, len, cap, (List.range len).map q⟩, h1, ⟨⟨Open.rd_of_cells ?_, by simp, hl, Nat.le_trans hcap (by decide)⟩, fun h => (by cases h), fun y hy => ?_, hcap⟩⟩
      · intro i hi
        rw [hL] at hi
        have hd : i / k < len := (Nat.div_lt_iff_lt_mul hk0).2 hi
        have hmod := Nat.mod_lt i hk0
        have hdm := Nat.div_add_mod i k
        obtain ⟨_, _, hcc⟩ := World.cells?_some (hq (i / k) hd).1
        have h3 := hcc (i % k) hmod
        rw [Go.Deep.add_add, show i / k * k + i % k = i by rw [Nat.mul_comm]; exact hdm] at h3
        rw [h3]
        have hg := flatMap_get R.len ((List.range len).map q) (i / k) (i % k) (q (i / k)) (by simp [hd]) hmod
        rw [show i / k * k + i % k = i by rw [Nat.mul_comm]; exact hdm] at hg
        rw [List.getElem?_eq_getElem (by rw [hL]; exact hi)] at hg
        exact hg.symm
      · obtain ⟨i, hi, rfl⟩ := List.mem_map.1 hy
        exact (hq i (by simpa using hi)).2⟩
/-- the fields of a struct from number i on, for data smaller than Z -/
structure RdrFB (Z : Nat) (P : Program) (fs : Array Field) (i off k : Nat) {α : Type} (enc : α → List Value) (ok : World → α → Prop) : Prop where
  len : ∀ a, (enc a).length = k
  read : ∀ {H : Type} {en : TypeId × Value → H} {w : World} {n : Nat} {cs : List Value} {xs : List (DataW H × List MemPlace)}, (∀ x ∈ xs, SizeOf.sizeOf x.1 < Z) → cs.length = off + k →
    (∀ (j : Nat) (f : Field), fs[j]? = some f → DataW.trod en P w 0 (fun _ => true) true n f.type ((cs.drop f.offset).take (P.cellsOf f.type)) = xs[j]?) → xs.length = fs.size →
    (∀ (j : Nat) (f : Field) (x : DataW H × List MemPlace), fs[j]? = some f → xs[j]? = some x → ∀ m ∈ x.1.weights P f.type, m ≤ 140737488351232) → ∃ a, cs.drop off = enc a ∧ ok w a
theorem RdrFB.one {fs : Array Field} {i off k : Nat} {α : Type} {enc : α → List Value} {ok : World → α → Prop} {f : Field} (hf : fs[i]? = some f) (ho : f.offset = off) (R : RdrB Z P f.type k enc ok) : RdrFB Z P fs i off k enc ok :=
  ⟨R.len, fun {H en w n cs xs} hz hl hx hs hm => by
    have h := hx i f hf
    rw [ho, R.cells, List.take_of_length_le (by rw [List.length_drop]; omega)] at h
    obtain ⟨x, e⟩ : ∃ x, xs[i]? = some x := ⟨xs[i]'(by rw [hs]; exact (Array.getElem?_eq_some_iff.1 hf).1), List.getElem?_eq_getElem _⟩
    rw [e] at h
    exact R.read (hz x (List.mem_of_getElem? e)) h (hm i f x hf e)⟩
theorem RdrFB.cons {fs : Array Field} {i off k k' : Nat} {α β : Type} {enc : α → List Value} {ok : World → α → Prop} {enc' : β → List Value} {ok' : World → β → Prop} {f : Field} (hf : fs[i]? = some f) (ho : f.offset = off) (R : RdrB Z P f.type k enc ok)
    (S : RdrFB Z P fs (i + 1) (off + k) k' enc' ok') : RdrFB Z P fs i off (k + k') (fun p : α × β => enc p.1 ++ enc' p.2) (fun w p => ok w p.1 ∧ ok' w p.2) :=
  ⟨fun p => by rw [List.length_append, R.len, S.len], fun {H en w n cs xs} hz hl hx hs hm => by
    have h := hx i f hf
    rw [ho, R.cells] at h
    obtain ⟨x, e⟩ : ∃ x, xs[i]? = some x := ⟨xs[i]'(by rw [hs]; exact (Array.getElem?_eq_some_iff.1 hf).1), List.getElem?_eq_getElem _⟩
    rw [e] at h
    obtain ⟨a, e1, h1⟩ := R.read (hz x (List.mem_of_getElem? e)) h (hm i f x hf e)
    obtain ⟨b, e2, h2⟩ := S.read hz (by omega) hx hs hm
    refine ⟨(a, b), ?_, h1, h2⟩
    rw [← e1, ← e2, ← List.drop_drop, List.take_append_drop]⟩
theorem RdrB.struct {fs : Array Field} {k : Nat} {α : Type} {enc : α → List Value} {ok : World → α → Prop} (hu : P.underlying t = some (.struct fs)) (hc : P.cellsOf t = k) (S : RdrFB Z P fs 0 0 k enc ok) : RdrB (Z + 1) P t k enc ok :=
  ⟨S.len, hc, fun {H en w n cs x} hz h hm => by
    obtain ⟨xs, k', _, rfl, hl, hxl, hf⟩ := DataW.trod_struct hu h
    have := S.read (cs := cs) (fun y hy => by
      have h3 := List.sizeOf_lt_of_mem (List.mem_map.2 ⟨y, hy, rfl⟩ : y.1 ∈ xs.map (·.1))
      simp at hz
      omega) (by rw [hl, hc]; omega) hf hxl (fun j f x hfj hxj m hmj => hm m (by
      simp only [DataW.weights, hu]
      exact DataW.weights_mem_each (j := j) (t := f.type) (d := x.1) (by simpa using ⟨f, by simpa using hfj, rfl⟩) (by simpa using ⟨x.2, hxj⟩) m hmj))
    simpa using this⟩
end
end Go.Proofs.Ytbgbalfhbficaaa
