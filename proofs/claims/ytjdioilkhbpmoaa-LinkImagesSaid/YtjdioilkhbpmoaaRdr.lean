/- Plain data that came in, opened by type: how a value of a type reads as data of Lean (numbers, texts, structs, slices of them, slices in structs). Conditions: as each theorem says. -/
import Derived.Test.YtjdioilkhbpmoaaOpen
import Derived.Deep.Slices
namespace Go.Proofs.Ytjdioilkhbpmoaa
open Go.ChangeShapes Go.WideShapes Go.ChangeAt Go.RowKit
set_option linter.unusedVariables false
/-- a slice whose elements have k cells reads as a list -/
structure Sl {α : Type} (k : Nat) (enc : α → List Value) (w : World) (A : Option Addr) (n c : Nat) (xs : List α) : Prop where
  rd : Rd w w.heap.size A (xs.flatMap enc)
  len : xs.length = n
  cap : n ≤ c
  most : c ≤ 9223372036854775807
theorem flatMap_length {α : Type} {k : Nat} {enc : α → List Value} (hk : ∀ x, (enc x).length = k) : ∀ xs : List α, (xs.flatMap enc).length = xs.length * k
  | [] => by simp
  | x :: xs => by rw [List.flatMap_cons, List.length_append, hk, flatMap_length hk xs, List.length_cons, Nat.succ_mul]; omega
theorem flatMap_get {α : Type} {k : Nat} {enc : α → List Value} (hk : ∀ x, (enc x).length = k) : ∀ (xs : List α) (i j : Nat) (x : α), xs[i]? = some x → j < k → (xs.flatMap enc)[i * k + j]? = (enc x)[j]?
  | [], i, j, x, h, _ => by simp at h
  | y :: xs, 0, j, x, h, hj => by
    simp at h
    subst h
    rw [List.flatMap_cons, Nat.zero_mul, Nat.zero_add, List.getElem?_append_left (by rw [hk]; exact hj)]
  | y :: xs, i + 1, j, x, h, hj => by
    rw [List.flatMap_cons, List.getElem?_append_right (by rw [hk, Nat.succ_mul]; omega), hk, show (i + 1) * k + j - k = i * k + j by rw [Nat.succ_mul]; omega]
    exact flatMap_get hk xs i j x (by simpa using h) hj
section
variable {α : Type} {k : Nat} {enc : α → List Value} {w w' : World} {A : Option Addr} {n c : Nat} {xs : List α}
theorem Sl.up (h : Sl k enc w A n c xs) (hq : Q w w') : Sl k enc w' A n c xs := ⟨h.rd.up hq, h.len, h.cap, h.most⟩
theorem Sl.nil (w : World) : Sl k enc w none 0 0 [] := ⟨.inl rfl, rfl, Nat.le_refl _, Nat.zero_le _⟩
/-- element i of it -/
theorem Sl.at_ (h : Sl k enc w A n c xs) (hk : ∀ x, (enc x).length = k) (hk0 : 0 < k) (i : Nat) (hi : i < n) :
    ∃ b o x, A = some ⟨b, o, none⟩ ∧ b < w.heap.size ∧ xs[i]? = some x ∧ ∀ j u, (enc x)[j]? = some u → w.cell? ⟨b, o + i * k + j, none⟩ = some u := by
  have hl := h.len
  have hL := flatMap_length hk xs
  have hin : ∀ j, j < k → i * k + j < (xs.flatMap enc).length := fun j hj => by
    rw [hL]
    calc i * k + j < i * k + k := by omega
      _ = (i + 1) * k := by rw [Nat.succ_mul]
      _ ≤ xs.length * k := Nat.mul_le_mul_right _ (by omega)
  obtain ⟨b, o, e, hb, hc⟩ := h.rd.at_ (by have := hin 0 hk0; omega)
  obtain ⟨x, hx⟩ : ∃ x, xs[i]? = some x := ⟨xs[i], List.getElem?_eq_getElem (by omega)⟩
  refine ⟨b, o, x, e, hb, hx, fun j u hu => ?_⟩
  have hj : j < k := by rw [← hk x]; exact (List.getElem?_eq_some_iff.1 hu).1
  have h1 := flatMap_get hk xs i j x hx hj
  rw [hu] at h1
  rw [Nat.add_assoc, hc _ (hin j hj)]
  rw [List.getElem?_eq_getElem (hin j hj)] at h1
  exact h1
theorem Sl.nilA (h : Sl k enc w none n c xs) (hk : ∀ x, (enc x).length = k) (hk0 : 0 < k) : n = 0 := by
  rcases Nat.eq_zero_or_pos n with h0 | h0
  · exact h0
  · obtain ⟨_, _, _, e, _⟩ := h.at_ hk hk0 0 h0
    cases e
/-- a slice of the call's own -/
theorem Sl.own {B : Nat} {e : TypeId} (h : w.ownsRow B e k (.slice A n c) n (xs.flatMap enc)) (hk : ∀ x, (enc x).length = k) (hk0 : 0 < k) : Sl k enc w A n c xs := by
  obtain ⟨A', c', e', h1, hc, h3, hr⟩ := own_form h
  cases e'
  unfold maxLen at hc
  rw [flatMap_length hk] at h3
  exact ⟨hr, Nat.eq_of_mul_eq_mul_right hk0 h3, h1, by omega⟩
end
/-- how a value of type t, of k cells, reads as data of Lean -/
structure Rdr (P : Program) (t : TypeId) (k : Nat) {α : Type} (enc : α → List Value) (ok : World → α → Prop) : Prop where
  len : ∀ a, (enc a).length = k
  cells : P.cellsOf t = k
  read : ∀ {H : Type} {en : TypeId × Value → H} {w : World} {n : Nat} {cs : List Value} {x : DataW H × List MemPlace}, DataW.trod en P w 0 (fun _ => true) true n t cs = some x → (∀ m ∈ x.1.weights P t, m ≤ 140737488351232) → ∃ a, cs = enc a ∧ ok w a
section
variable {P : Program} {t e : TypeId}
def encI (k : IntKind) (a : Int) : List Value := [.int k a]
def encB (b : Bool) : List Value := [.bool b]
def encS (s : ByteArray) : List Value := [.string s]
theorem Rdr.int {k : IntKind} (hu : P.underlying t = some (.int k)) (hc : P.cellsOf t = 1) : Rdr P t 1 (encI k) (fun _ a => (Lit.int k a).wf = true) :=
  ⟨fun _ => rfl, hc, fun h _ => by obtain ⟨a, rfl, _, hw⟩ := DataW.trod_int hu h; exact ⟨a, rfl, hw⟩⟩
theorem Rdr.bool (hu : P.underlying t = some .bool) (hc : P.cellsOf t = 1) : Rdr P t 1 encB (fun _ _ => True) :=
  ⟨fun _ => rfl, hc, fun h _ => by obtain ⟨a, rfl, _⟩ := DataW.trod_bool hu h; exact ⟨a, rfl, trivial⟩⟩
theorem Rdr.str (hu : P.underlying t = some .string) (hc : P.cellsOf t = 1) : Rdr P t 1 encS (fun _ s => s.size ≤ 140737488351232) :=
  ⟨fun _ => rfl, hc, fun h hm => by
    obtain ⟨a, rfl, rfl, _⟩ := DataW.trod_string hu h
    exact ⟨a, rfl, by simpa using hm a.data.toList.length (by simp [DataW.weights])⟩⟩
/-- a slice as a value, and what it reads as -/
structure SlV (α : Type) where
  A : Option Addr
  n : Nat
  c : Nat
  xs : List α
def SlV.val {α : Type} (v : SlV α) : Value := .slice v.A v.n v.c
def encV {α : Type} (v : SlV α) : List Value := [v.val]
structure SlOk {α : Type} (k : Nat) (enc : α → List Value) (ok : World → α → Prop) (w : World) (v : SlV α) : Prop where
  sl : Sl k enc w v.A v.n v.c v.xs
  nil_ : v.A = none → v.n = 0 ∧ v.c = 0
  all : ∀ x ∈ v.xs, ok w x
  big : v.c ≤ 140737488351232
theorem weightsAll_mem' {H : Type} {P : Program} {e : TypeId} : ∀ {l : List (DataW H)} {d : DataW H}, d ∈ l → ∀ n ∈ d.weights P e, n ∈ DataW.weightsAll P e l
  | [], d, h, _, _ => by simp at h
  | x :: l, d, h, n, hn => by
    unfold DataW.weightsAll
    rw [List.mem_append]
    rcases List.mem_cons.1 h with rfl | h
    · exact .inl hn
    · exact .inr (weightsAll_mem' h n hn)
theorem Rdr.slice {k : Nat} {α : Type} [Inhabited α] {enc : α → List Value} {ok : World → α → Prop} (R : Rdr P e k enc ok) (hk0 : 0 < k) (hu : P.underlying t = some (.slice e)) (hc : P.cellsOf t = 1) (hb : 0 < P.bytesOf e) : Rdr P t 1 (encV (α := α)) (SlOk k enc ok) :=
  ⟨fun _ => rfl, hc, fun {H en w n cs x} h hm => by
    rcases Go.Deep.open_slice hu h with ⟨h1, h2⟩ | ⟨a, len, cap, m, k', D, Pl, h1, _, hl, hcm, hmm, hx, hcell⟩
    · exact ⟨⟨none, 0, 0, []⟩, h1, ⟨Sl.nil w, fun _ => ⟨rfl, rfl⟩, fun x hx => (by cases hx), Nat.zero_le _⟩⟩
    · simp only [if_true] at hmm
      rw [R.cells] at hcell
      have hx1 : x.1 = .slice ((List.range len).map D) ((List.range (m - len)).map fun j => D (len + j)) := by rw [hx]
      have hcap : cap ≤ 140737488351232 := by
        have := hm ((len + (m - len)) * P.bytesOf e) (by rw [hx1]; simp [DataW.weights, hu])
        have h3 : len + (m - len) ≤ (len + (m - len)) * P.bytesOf e := Nat.le_mul_of_pos_right _ hb
        omega
      obtain ⟨q, hq⟩ := Go.Deep.choose_lt (α := α) (p := fun i y => w.cells? 0 (a.add (i * k)) k = some (enc y) ∧ ok w y) (n := len) (fun i hi => by
        obtain ⟨cs', e1, e2⟩ := hcell i (by omega)
        obtain ⟨y, rfl, hy⟩ := R.read e2 (fun m' hm' => hm m' (by
          rw [hx1]
          simp only [DataW.weights, hu, List.mem_cons, List.mem_append]
          exact .inr (.inl (weightsAll_mem' (d := D i) (List.mem_map.2 ⟨i, by simp [hi], rfl⟩) m' hm'))))
        exact ⟨y, e1, hy⟩)
      have hL : (((List.range len).map q).flatMap enc).length = len * k := by rw [flatMap_length R.len]; simp
      refine ⟨⟨some a, len, cap, (List.range len).map q⟩, h1, ⟨⟨Open.rd_of_cells ?_, by simp, hl, Nat.le_trans hcap (by decide)⟩, fun h => (by cases h), fun y hy => ?_, hcap⟩⟩
      · intro i hi
        rw [hL] at hi
        have hd : i / k < len := (Nat.div_lt_iff_lt_mul hk0).2 hi
        have hmod := Nat.mod_lt i hk0
        have hdm := Nat.div_add_mod i k
        obtain ⟨_, _, hcc⟩ := World.cells?_some (hq (i / k) hd).1
        have h3 := hcc (i % k) hmod
        rw [Go.Deep.add_add, show i / k * k + i % k = i by rw [Nat.mul_comm]; exact hdm] at h3
        rw [h3]
        have hg := flatMap_get R.len ((List.range len).map q) (i / k) (i % k) (q (i / k)) (by simp [hd]) hmod
        rw [show i / k * k + i % k = i by rw [Nat.mul_comm]; exact hdm] at hg
        rw [List.getElem?_eq_getElem (by rw [hL]; exact hi)] at hg
        exact hg.symm
      · obtain ⟨i, hi, rfl⟩ := List.mem_map.1 hy
        exact (hq i (by simpa using hi)).2⟩
/-- the fields of a struct from number i on, which stand from cell off on -/
structure RdrF (P : Program) (fs : Array Field) (i off k : Nat) {α : Type} (enc : α → List Value) (ok : World → α → Prop) : Prop where
  len : ∀ a, (enc a).length = k
  read : ∀ {H : Type} {en : TypeId × Value → H} {w : World} {n : Nat} {cs : List Value} {xs : List (DataW H × List MemPlace)}, cs.length = off + k →
    (∀ (j : Nat) (f : Field), fs[j]? = some f → DataW.trod en P w 0 (fun _ => true) true n f.type ((cs.drop f.offset).take (P.cellsOf f.type)) = xs[j]?) → xs.length = fs.size →
    (∀ (j : Nat) (f : Field) (x : DataW H × List MemPlace), fs[j]? = some f → xs[j]? = some x → ∀ m ∈ x.1.weights P f.type, m ≤ 140737488351232) → ∃ a, cs.drop off = enc a ∧ ok w a
theorem RdrF.one {fs : Array Field} {i off k : Nat} {α : Type} {enc : α → List Value} {ok : World → α → Prop} {f : Field} (hf : fs[i]? = some f) (ho : f.offset = off) (R : Rdr P f.type k enc ok) : RdrF P fs i off k enc ok :=
  ⟨R.len, fun {H en w n cs xs} hl hx hs hm => by
    have h := hx i f hf
    rw [ho, R.cells, List.take_of_length_le (by rw [List.length_drop]; omega)] at h
    obtain ⟨x, e⟩ : ∃ x, xs[i]? = some x := ⟨xs[i]'(by rw [hs]; exact (Array.getElem?_eq_some_iff.1 hf).1), List.getElem?_eq_getElem _⟩
    rw [e] at h
    exact R.read h (hm i f x hf e)⟩
theorem RdrF.cons {fs : Array Field} {i off k k' : Nat} {α β : Type} {enc : α → List Value} {ok : World → α → Prop} {enc' : β → List Value} {ok' : World → β → Prop} {f : Field} (hf : fs[i]? = some f) (ho : f.offset = off) (R : Rdr P f.type k enc ok)
    (S : RdrF P fs (i + 1) (off + k) k' enc' ok') : RdrF P fs i off (k + k') (fun p : α × β => enc p.1 ++ enc' p.2) (fun w p => ok w p.1 ∧ ok' w p.2) :=
  ⟨fun p => by rw [List.length_append, R.len, S.len], fun {H en w n cs xs} hl hx hs hm => by
    have h := hx i f hf
    rw [ho, R.cells] at h
    obtain ⟨x, e⟩ : ∃ x, xs[i]? = some x := ⟨xs[i]'(by rw [hs]; exact (Array.getElem?_eq_some_iff.1 hf).1), List.getElem?_eq_getElem _⟩
    rw [e] at h
    obtain ⟨a, e1, h1⟩ := R.read h (hm i f x hf e)
    obtain ⟨b, e2, h2⟩ := S.read (by omega) hx hs hm
    refine ⟨(a, b), ?_, h1, h2⟩
    rw [← e1, ← e2, ← List.drop_drop, List.take_append_drop]⟩
theorem Rdr.struct {fs : Array Field} {k : Nat} {α : Type} {enc : α → List Value} {ok : World → α → Prop} (hu : P.underlying t = some (.struct fs)) (hc : P.cellsOf t = k) (S : RdrF P fs 0 0 k enc ok) : Rdr P t k enc ok :=
  ⟨S.len, hc, fun {H en w n cs x} h hm => by
    obtain ⟨xs, k', _, rfl, hl, hxl, hf⟩ := DataW.trod_struct hu h
    have := S.read (cs := cs) (by rw [hl, hc]; omega) hf hxl (fun j f x hfj hxj m hmj => hm m (by
      simp only [DataW.weights, hu]
      exact DataW.weights_mem_each (j := j) (t := f.type) (d := x.1) (by simpa using ⟨f, by simpa using hfj, rfl⟩) (by simpa using ⟨x.2, hxj⟩) m hmj))
    simpa using this⟩
end
/-- a law's argument, opened -/
theorem Rdr.arg {P : Program} {t : TypeId} {k : Nat} {α : Type} {enc : α → List Value} {ok : World → α → Prop} (R : Rdr P t k enc ok) {H : Type} {en : TypeId × Value → H} {w : World} {v : Value} {d : DataW H} {ps : List MemPlace}
    (hd : DataW.Trod en P w 0 (fun _ => true) true t v d ps) {ts : List TypeId} {ds : List (DataW H)} (hs : (DataW.weightsEach P ts ds).all (· ≤ reachBytes) = true) {j : Nat} (htj : ts[j]? = some t) (hdj : ds[j]? = some d) :
    ∃ a, v.cells.toList = enc a ∧ ok w a := by
  obtain ⟨fuel, hf⟩ := hd
  exact R.read hf (fun m hm => of_decide_eq_true (List.all_eq_true.1 hs m (DataW.weights_mem_each htj hdj m hm)))
theorem Rdr.slice' {P : Program} {t e : TypeId} {k bb : Nat} {α : Type} [Inhabited α] {enc : α → List Value} {ok : World → α → Prop} (R : Rdr P e k enc ok) (hk0 : 0 < k) (hu : P.underlying t = some (.slice e)) (hc : P.cellsOf t = 1) (hb : P.bytesOf e = bb) (hb0 : 0 < bb) :
    Rdr P t 1 (encV (α := α)) (SlOk k enc ok) := R.slice hk0 hu hc (by rw [hb]; exact hb0)
theorem Rdr.argV {P : Program} {t e : TypeId} {α : Type} {ok : World → SlV α → Prop} (R : Rdr P t 1 (encV (α := α)) ok) (ht : P.underlying t = some (.slice e)) {r : Reach} {b0 : Nat} {H : Type} {en : TypeId × Value → H} {w : World} {v : Value} {d : DataW H} {ps : List MemPlace}
    (hval : Value.okWide P w r b0 t v) (hd : DataW.Trod en P w 0 (fun _ => true) true t v d ps) {ts : List TypeId} {ds : List (DataW H)} (hs : (DataW.weightsEach P ts ds).all (· ≤ reachBytes) = true) {j : Nat} (htj : ts[j]? = some t) (hdj : ds[j]? = some d) :
    ∃ a : SlV α, v = a.val ∧ ok w a := by
  obtain ⟨A, n, c, rfl⟩ := okWide_slice ht hval
  obtain ⟨a, e, h⟩ := R.arg hd hs htj hdj
  refine ⟨a, ?_, h⟩
  simpa [Value.cells, encV] using e
end Go.Proofs.Ytjdioilkhbpmoaa
