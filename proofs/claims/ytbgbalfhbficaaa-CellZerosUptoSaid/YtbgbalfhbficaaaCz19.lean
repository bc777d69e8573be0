/- Cells of one shape, and the cell of zeros: plain. Rows of cells in new memory, built one by one by a region that draws its order. zero of the program. Conditions: as each theorem says. -/
import Derived.Test.YtbgbalfhbficaaaCz18
namespace Go.Proofs.Ytbgbalfhbficaaa
set_option maxRecDepth 100000
set_option maxHeartbeats 2000000
open Go.RowKit
set_option linter.unusedVariables false
set_option linter.unusedSimpArgs false
def Cel.ske : Cel → Cel
 | .mk n a b _ _ _ ps => .mk n a b none 0 0 (ps.attach.map fun p => Cel.ske p.1)
termination_by c => SizeOf.sizeOf c
decreasing_by
 have := List.sizeOf_lt_of_mem p.2
 simp
 omega
theorem skeC_mk (n : Int) (a b : Bool) (A : Option Addr) (len cap : Nat) (ps : List Cel) : (Cel.mk n a b A len cap ps).ske = .mk n a b none 0 0 (ps.map Cel.ske) := by
 rw [Cel.ske, attach_map']
theorem skeC_und (c : Cel) : c.ske.und = c.und := by cases c; rw [skeC_mk]; rfl
theorem skeC_isC {w : World} {c : Cel} (h : CelR w c) (wd : Int) : ∀ l, c.ske.isC wd l = c.isC wd l := by
 induction h with
 | @mk x nul und A2 n2 c2 qs h1 h2 h3 h4 h5 ih =>
  intro l
  have e1 : (qs.map Cel.ske).map (Cel.isC wd) = qs.map (Cel.isC wd) := by
   rw [List.map_map]
   exact map_eq_of fun q hq => funext fun l => ih q hq l
  have e2 : (qs.map Cel.ske).map Cel.und = qs.map Cel.und := by
   rw [List.map_map]
   exact map_eq_of fun q hq => skeC_und q
  rw [skeC_mk, isC_mk, isC_mk, e1, e2]
theorem skeC_isDef {w : World} {c : Cel} (h : CelR w c) : c.ske.isDef = c.isDef := by
 induction h with
 | @mk x nul und A2 n2 c2 qs h1 h2 h3 h4 h5 ih =>
  rw [skeC_mk, isDef_mk, isDef_mk, List.all_map]
  congr 1
  rw [Bool.eq_iff_iff, List.all_eq_true, List.all_eq_true]
  exact ⟨fun h q hq => by rw [← ih q hq]; exact h q hq, fun h q hq => by show q.ske.isDef = true; rw [ih q hq]; exact h q hq⟩
theorem zip_all {f : Cel → Cel → Bool} : ∀ (xs ys : List Cel), (∀ (j : Nat) (a b : Cel), xs[j]? = some a → ys[j]? = some b → f a b = true) → ((xs.zip ys).all fun z => f z.1 z.2) = true
 | [], _, _ => rfl
 | _ :: _, [], _ => rfl
 | a :: xs, b :: ys, h => by
  rw [List.zip_cons_cons, List.all_cons, h 0 a b rfl rfl, zip_all xs ys fun j x y hx hy => h (j + 1) x y hx hy]
  rfl
theorem skeC_same {w : World} {a : Cel} (h : CelR w a) : ∀ b : Cel, a.ske = b.ske → sameC a b = true := by
 induction h with
 | @mk x nul und A2 n2 c2 qs h1 h2 h3 h4 h5 ih =>
  intro b e
  cases b with
  | mk m u v B k d rs =>
   rw [skeC_mk, skeC_mk] at e
   injection e with e1 e2 e3 _ _ _ e4
   subst e1 e2 e3
   have hl : qs.length = rs.length := by have := congrArg List.length e4; simpa using this
   rw [sameC_mk, zip_all qs rs (fun j a b ha hb => ih a (List.mem_of_getElem? ha) b (by
    have h9 : (qs.map Cel.ske)[j]? = (rs.map Cel.ske)[j]? := by rw [e4]
    rw [List.getElem?_map, List.getElem?_map, ha, hb] at h9
    injection h9))]
   simp [hl]
inductive CelB (P : Nat → Prop) : Cel → Prop
 | mk {n : Int} {a b : Bool} {A : Option Addr} {len cap : Nat} {parts : List Cel} : (∀ x, A = some x → P x.block) → (∀ p ∈ parts, CelB P p) → CelB P (.mk n a b A len cap parts)
theorem CelB.mono {P P2 : Nat → Prop} {c : Cel} (h : CelB P c) (hp : ∀ b, P b → P2 b) : CelB P2 c := by
 induction h with
 | mk h1 _ ih => exact .mk (fun a ha => hp _ (h1 a ha)) ih
theorem CelR.frame' {w w' : World} {P : Nat → Prop} {c : Cel} (h : CelR w c) (hP : ∀ i, P i → i < w.heap.size → w'.heap[i]? = w.heap[i]?) (hs : w.heap.size ≤ w'.heap.size) : CelB P c → CelR w' c := by
 induction h with
 | @mk n a b A len cap ps h1 h3 h4 h5 _ ih =>
  intro hb
  cases hb with
  | mk b1 b2 =>
   refine .mk h1 ⟨?_, h3.len, h3.cap, h3.most⟩ h4 h5 (fun p hp => ih p hp (b2 p hp))
   rcases h3.rd with h | ⟨b, o, e, hlt, hc⟩
   ·exact .inl h
   ·exact .inr ⟨b, o, e, Nat.lt_of_lt_of_le hlt hs, fun j u hu => (World.cell?_of_block (a := ⟨b, o + j, none⟩) (hP b (b1 _ e) hlt)).trans (hc j u hu)⟩
theorem CelR.frame {w w' : World} {row : Option Nat} {c : Cel} (h : CelR w c) (hg : w.grownBy w' row) (hb : CelB (fun b => some b ≠ row) c) : CelR w' c := h.frame' (fun i hi hlt => hg.block i hlt hi) hg.size hb
def zeroC (k n : Int) (zs : List Cel) : Cel :=
 if k = 4 then .mk 0 true false none 0 0 [] else if k = 8 then .mk 0 false false none 0 0 (zs.take 1)
 else if k = 5 then .mk 0 false false none 0 0 (List.replicate n.toNat (zs.headD default))
 else if k = 6 ∨ k = 9 then .mk 0 false false none 0 0 zs else .mk 0 false false none 0 0 []
def Lay.zero : Lay → Cel
 | .mk k n f A len cap ps => zeroC k n (ps.attach.map fun p => Lay.zero p.1)
termination_by c => SizeOf.sizeOf c
decreasing_by
 have := List.sizeOf_lt_of_mem p.2
 simp
 omega
theorem zero_mk (k n : Int) (f : Bool) (A : Option Addr) (len cap : Nat) (ps : List Lay) : (Lay.mk k n f A len cap ps).zero = zeroC k n (ps.map Lay.zero) := by
 rw [Lay.zero, attach_map']
theorem zeroC_4 (n : Int) (zs : List Cel) : zeroC 4 n zs = .mk 0 true false none 0 0 [] := if_pos rfl
theorem zeroC_8 (n : Int) (zs : List Cel) : zeroC 8 n zs = .mk 0 false false none 0 0 (zs.take 1) := by unfold zeroC; rw [if_neg (by decide), if_pos rfl]
theorem zeroC_5 (n : Int) (zs : List Cel) : zeroC 5 n zs = .mk 0 false false none 0 0 (List.replicate n.toNat (zs.headD default)) := by unfold zeroC; rw [if_neg (by decide), if_neg (by decide), if_pos rfl]
theorem zeroC_69 {k : Int} (h : k = 6 ∨ k = 9) (n : Int) (zs : List Cel) : zeroC k n zs = .mk 0 false false none 0 0 zs := by unfold zeroC; rw [if_neg (by omega), if_neg (by omega), if_neg (by omega), if_pos h]
theorem zeroC_no {k : Int} (h : ¬ (k = 4 ∨ k = 5 ∨ k = 6 ∨ k = 8 ∨ k = 9)) (n : Int) (zs : List Cel) : zeroC k n zs = .mk 0 false false none 0 0 [] := by unfold zeroC; rw [if_neg (by omega), if_neg (by omega), if_neg (by omega), if_neg (by omega)]
theorem bnd_zero {wd k n : Int} {f : Bool} (h : NumK wd k n f) : (bnd wd k n f).1 ≤ 0 ∧ 0 ≤ (bnd wd k n f).2 := by
 obtain ⟨h1, h2, h3, h4, h5⟩ := h
 unfold bnd
 by_cases e1 : k = 1
 ·rw [if_pos e1]; exact ⟨Int.le_refl 0, by decide⟩
 rw [if_neg e1]
 by_cases e7 : k = 7
 ·rw [if_pos e7]
  have := h4 e7
  exact ⟨Int.le_refl 0, show 0 ≤ n - 1 by omega⟩
 rw [if_neg e7]
 have p1 := pw_pos (bndW wd k n - 1)
 have p2 := pw_pos (bndW wd k n)
 cases f with
 | true =>
  rw [if_pos rfl]
  split
  ·exact ⟨by decide, by decide⟩
  ·exact ⟨by dsimp only; omega, by dsimp only; omega⟩
 | false =>
  rw [if_neg (by decide)]
  split
  ·exact ⟨by decide, by decide⟩
  ·exact ⟨Int.le_refl 0, by dsimp only; omega⟩
theorem zero_num {w : World} {p : Lay} {wd : Int} (hv : VL p) (hw : okW wd) (hk : p.k = 1 ∨ p.k = 2 ∨ p.k = 3 ∨ p.k = 7) : p.zero.isC wd p = true ∧ p.zero.und = false := by
 cases p with
 | mk k n f A len cap ps =>
  have hk' : k = 1 ∨ k = 2 ∨ k = 3 ∨ k = 7 := hk
  have hb := bnd_zero (numK_of hv hw hk')
  rw [zero_mk, zeroC_no (by omega), isC_mk, cellC_n rfl rfl hk]
  refine ⟨?_, rfl⟩
  show ((((0 : Nat) : Int) == 0) && (decide ((bnd wd k n f).1 ≤ 0) && decide (0 ≤ (bnd wd k n f).2))) = true
  rw [decide_eq_true hb.1, decide_eq_true hb.2]
  rfl
theorem zero_isC {w : World} {l : Lay} {wd : Int} (h : LayR w l) : Okw wd l → l.zero.isC wd l = true := by
 induction h with
 | @mk k n f A len cap ps a1 a2 a3 a4 a5 a6 ih =>
  intro ho
  have hl : LayR w (.mk k n f A len cap ps) := .mk a1 a2 a3 a4 a5 a6
  have hvl := ho.vl
  obtain ⟨hk0, hk9, hnum, hrest⟩ := hvl.kind
  have ek : (Lay.mk k n f A len cap ps).k = k := rfl
  have hop : ∀ p ∈ ps, (k = 5 → 0 < n) → k ≠ 9 → Okw wd p := fun p hp h5 h9 => ho.part hl hp h5 h9
  by_cases hn : k = 1 ∨ k = 2 ∨ k = 3 ∨ k = 7
  ·exact (zero_num (w := w) hvl ho.word hn).1
  rw [zero_mk]
  by_cases h4 : k = 4
  ·subst h4
   rw [zeroC_4, isC_mk, cellC_nul rfl rfl]
   rfl
  by_cases h0 : k = 0
  ·subst h0
   rw [zeroC_no (by decide), isC_mk, cellC_0 rfl rfl rfl]
   rfl
  by_cases h8 : k = 8
  ·subst h8
   unfold numL at hnum
   rw [if_neg (by decide), if_neg (by decide), if_pos rfl, decide_eq_true_eq] at hnum
   obtain ⟨p, r, rfl⟩ : ∃ p r, ps = p :: r := by
    cases ps with
    | nil => simp at hnum
    | cons p r => exact ⟨p, r, rfl⟩
   rw [zeroC_8, isC_mk, cellC_8 rfl rfl rfl]
   have h1 := ih p (List.mem_cons_self ..) (hop p (List.mem_cons_self ..) (by omega) (by decide))
   show (decide ((0 : Int) ≤ 0) && (decide ((0 : Int) < ((p :: r).length : Int)) && ((((1 : Nat) : Int) == 1) && p.zero.isC wd p))) = true
   rw [h1, decide_eq_true (show (0 : Int) < ((p :: r).length : Int) by simp)]
   rfl
  have harea : ∀ zs : List Cel, (zs.length : Int) = cntL (.mk k n f A len cap ps) → (∀ (j : Nat) (z : Cel), zs[j]? = some z → z.isC wd (prtL (.mk k n f A len cap ps) j) = true ∧ z.und = false) → areC (.mk k n f A len cap ps) (zs.map (Cel.isC wd)) (zs.map Cel.und) = true := fun zs hz hall => by
   unfold areC
   rw [List.length_map, hz, List.all_eq_true.2 (fun j hj => by
    rw [List.mem_range] at hj
    have hg := List.getElem?_eq_getElem hj
    obtain ⟨x1, x2⟩ := hall j _ hg
    rw [List.getElem?_map, List.getElem?_map, hg, Option.map_some, Option.map_some, Option.getD_some, Option.getD_some, x1, x2, Bool.and_false]
    rfl)]
   simp
  by_cases h5 : k = 5
  ·subst h5
   unfold numL at hnum
   rw [if_pos (.inr rfl), decide_eq_true_eq, List.length_eq_one_iff] at hnum
   obtain ⟨p, rfl⟩ := hnum
   unfold restL at hrest
   rw [if_neg (by decide), if_pos rfl, decide_eq_true_eq] at hrest
   rw [zeroC_5, isC_mk, cellC_p rfl rfl (.inl rfl), harea _ (by
    rw [List.length_replicate]
    unfold cntL
    rw [if_pos (show (Lay.mk 5 n f A len cap [p]).k = 5 from rfl)]
    show ((n.toNat : Nat) : Int) = n
    omega) (fun j z hz => by
    rw [List.getElem?_replicate] at hz
    split at hz
    ·rename_i hlt
     injection hz with hz
     subst hz
     have h1 := ih p (List.mem_cons_self ..) (hop p (List.mem_cons_self ..) (fun _ => by omega) (by decide))
     have e : prtL (.mk 5 n f A len cap [p]) j = p := by
      unfold prtL
      show ([p][min j 0]?).getD noL = p
      rw [Nat.min_zero]
      rfl
     rw [e]
     refine ⟨h1, ?_⟩
     show p.zero.und = false
     cases p with
     | mk k2 n2 f2 A2 len2 cap2 ps2 =>
      rw [zero_mk]
      unfold zeroC
      split
      ·rfl
      ·split
       ·rfl
       ·split
        ·rfl
        ·split <;> rfl
    ·cases hz)]
   rfl
  have h69 : k = 6 ∨ k = 9 := by omega
  rw [zeroC_69 h69, isC_mk, cellC_p rfl rfl (by rw [ek]; omega), harea _ (by
   rw [List.length_map]
   unfold cntL
   rw [if_neg (by rw [ek]; omega)]
   rfl) (fun j z hz => by
   rw [List.getElem?_map] at hz
   cases hp : ps[j]? with
   | none => rw [hp] at hz; cases hz
   | some p =>
    rw [hp] at hz
    injection hz with hz
    subst hz
    have hj := (List.getElem?_eq_some_iff.1 hp).1
    have hm := List.mem_of_getElem? hp
    have e : prtL (.mk k n f A len cap ps) j = p := by
     unfold prtL
     show (ps[min j (ps.length - 1)]?).getD noL = p
     rw [show min j (ps.length - 1) = j by omega, hp]
     rfl
    rw [e]
    by_cases h9 : k = 9
    ·subst h9
     exact zero_num (w := w) (hvl.part (l := .mk 9 n f A len cap ps) hm) ho.word (by have := pk_kind hvl hm; omega)
    ·refine ⟨ih p hm (hop p hm (by omega) h9), ?_⟩
     cases p with
     | mk k2 n2 f2 A2 len2 cap2 ps2 =>
      rw [zero_mk]
      unfold zeroC
      split
      ·rfl
      ·split
       ·rfl
       ·split
        ·rfl
        ·split <;> rfl)]
  rfl
theorem zero_isDef {w : World} {l : Lay} (h : LayR w l) (hv : VL l) : l.zero.isDef = true := by
 induction h with
 | @mk k n f A len cap ps a1 a2 a3 a4 a5 a6 ih =>
  have hih : ∀ p ∈ ps, p.zero.isDef = true := fun p hp => ih p hp (hv.part (l := .mk k n f A len cap ps) hp)
  obtain ⟨hk0, hk9, hnum, hrest⟩ := hv.kind
  rw [zero_mk]
  by_cases h4 : k = 4
  ·subst h4; rw [zeroC_4, isDef_mk]; rfl
  by_cases h8 : k = 8
  ·subst h8
   rw [zeroC_8, isDef_mk, List.all_eq_true.2 (fun z hz => by
    obtain ⟨p, hp, rfl⟩ := List.mem_map.1 (List.mem_of_mem_take hz)
    exact hih p hp)]
   rfl
  by_cases h5 : k = 5
  ·subst h5
   unfold numL at hnum
   rw [if_pos (.inr rfl), decide_eq_true_eq, List.length_eq_one_iff] at hnum
   obtain ⟨p, rfl⟩ := hnum
   rw [zeroC_5, isDef_mk, List.all_eq_true.2 (fun z hz => by
    rw [List.eq_of_mem_replicate hz]
    exact hih p (List.mem_cons_self ..))]
   rfl
  by_cases h69 : k = 6 ∨ k = 9
  ·rw [zeroC_69 h69, isDef_mk, List.all_eq_true.2 (fun z hz => by
    obtain ⟨p, hp, rfl⟩ := List.mem_map.1 hz
    exact hih p hp)]
   rfl
  ·rw [zeroC_no (by omega), isDef_mk]
   rfl
theorem El_cel : El Try.prog 29 31 4 40 := El.of (z := .agg #[.int .i64 0, .bool false, .bool false, .slice none 0 0]) Try.underlying29 (by kernel_rfl) rfl (by decide) (by decide)
theorem one_cel (c : Cel) : ∀ u ∈ encC c, u.oneCell' = true := fun u hu => by
 cases c
 simp [encC] at hu
 rcases hu with rfl | rfl | rfl | rfl <;> rfl
structure Zpd (B : Nat) (zs : List Cel) (j : Nat) (u : Value) (cs : List Cel) (W : World) : Prop where
 sh : cs.map Cel.ske = zs.take j
 own : W.ownsRow B 31 4 u j (cs.flatMap encC)
 all : ∀ c ∈ cs, CelR W c ∧ CelB (fun b => B ≤ b ∧ b < W.heap.size ∧ u.ownBlock ≠ some b) c
theorem Zpd.start (B : Nat) (zs : List Cel) (W : World) : Zpd B zs 0 (.slice none 0 0) [] W := ⟨by simp, World.ownsRow_nil _ _ _ _, fun c h => by cases h⟩
theorem Zpd.up {B : Nat} {zs : List Cel} {j : Nat} {u : Value} {cs : List Cel} {W W' : World} (h : Zpd B zs j u cs W) (hq : Q W W') : Zpd B zs j u cs W' :=
 ⟨h.sh, own_q h.own hq, fun c hc => ⟨(h.all c hc).1.up hq, (h.all c hc).2.mono fun b hb => ⟨hb.1, Nat.lt_of_lt_of_le hb.2.1 hq.size, hb.2.2⟩⟩⟩
theorem Zpd.low {B : Nat} {zs : List Cel} {j : Nat} {u : Value} {cs : List Cel} {W : World} (h : Zpd B zs j u cs W) {X i : Nat} (hX : X < B) (v : Value) : Zpd B zs j u cs (W.setCell ⟨X, i, none⟩ v) :=
 ⟨h.sh, own_set_low h.own hX i v, fun c hc => ⟨(h.all c hc).1.frame' (P := fun b => B ≤ b ∧ b < W.heap.size ∧ u.ownBlock ≠ some b) (fun q hq _ => heap_setCell_other _ _ _ _ (by have := hq.1; simp; omega)) (by simp) (h.all c hc).2, (h.all c hc).2.mono fun b hb => ⟨hb.1, by simpa using hb.2.1, hb.2.2⟩⟩⟩
theorem Zpd.next {B B1 : Nat} {zs : List Cel} {j : Nat} {u v8 : Value} {cs : List Cel} {W w8 : World} {c z : Cel} (h : Zpd B zs j u cs W) (hz : zs[j]? = some z) (hs : c.ske = z) (hc : CelR W c) (hB : B ≤ B1) (hu : ∀ k, u.ownBlock = some k → k < B1) (hb : CelB (fun b => B1 ≤ b ∧ b < W.heap.size) c)
  (ho : w8.ownsRow B 31 4 v8 (j + 1) (cs.flatMap encC ++ encC c)) (hg : W.grownBy w8 u.ownBlock) (hv : v8.ownBlock = u.ownBlock ∨ v8.ownBlock = some W.heap.size) : Zpd B zs (j + 1) v8 (cs ++ [c]) w8 := by
 have hs3 := hg.size
 refine ⟨?_, ?_, fun q hm => ?_⟩
 ·rw [List.map_append, h.sh, List.take_add_one, hz]
  simp [hs]
 ·rw [List.flatMap_append]
  simpa using ho
 ·rcases List.mem_append.1 hm with hm | hm
  ·obtain ⟨r, b⟩ := h.all q hm
   refine ⟨r.frame hg (b.mono fun k hk e => hk.2.2 e.symm), b.mono fun k hk => ⟨hk.1, by omega, ?_⟩⟩
   rcases hv with e | e
   ·rw [e]; exact hk.2.2
   ·rw [e]
    intro e2
    injection e2 with e2
    omega
  ·rw [List.mem_singleton] at hm
   subst hm
   refine ⟨hc.frame hg (hb.mono fun k hk e => ?_), hb.mono fun k hk => ⟨by omega, by omega, ?_⟩⟩
   ·have := hu k e.symm
    omega
   ·rcases hv with e | e
    ·intro e2
     rw [e] at e2
     have := hu k e2
     omega
    ·rw [e]
     intro e2
     injection e2 with e2
     omega
theorem Zpd.end_ {B : Nat} {zs cs : List Cel} {m : Nat} {u : Value} {W : World} (h : Zpd B zs m u cs W) (hl : zs.length = m) (h5 : m ≤ 140737488351232) : ∃ A c, u = .slice A m c ∧ CelR W (.mk 0 false false A m c cs) ∧ CelB (fun b => B ≤ b ∧ b < W.heap.size) (.mk 0 false false A m c cs) ∧ (Cel.mk 0 false false A m c cs).ske = .mk 0 false false none 0 0 zs := by
 have hsh := h.sh
 rw [← hl, List.take_length] at hsh
 have hown := h.own
 have hlt := hown.lt
 obtain ⟨A, c, rfl, -⟩ := own_form hown
 refine ⟨A, c, rfl, ?_, ?_, by rw [skeC_mk, hsh]⟩
 ·refine .mk rfl (Sl.own hown len_encC (by decide)) (fun e => ?_) h5 (fun q hq => (h.all q hq).1)
  subst e
  rcases hown.2 with ⟨e, e2⟩ | ⟨g, c2, cur, e, -⟩
  ·injection e with _ e3 e4
   exact ⟨e3, e4⟩
  ·injection e with e
   cases e
 ·refine .mk (fun a ha => ?_) (fun q hq => (h.all q hq).2.mono fun b hb => ⟨hb.1, hb.2.1⟩)
  subst ha
  exact hlt a.block rfl
def CZ (k k2 : Nat) (w2 : World) (B X : Nat) (zs : List Cel) (j : Nat) (u : Value) (cs : List Cel) (z : Cel) (S : Nat → Bool) (f : Nat → Value) (W : World) : Prop :=
 Q w2 W ∧ B ≤ W.heap.size ∧ (if S k = true then ∃ c, Zpd B zs (j + 1) (f k) (cs ++ [c]) W else Zpd B zs j u cs W) ∧ W.heap[X]? = some (.cells #[.int .i64 0, .bool false, .bool false, (if S k2 = true then f k else u)] 31 (0, 0))
theorem CZ.q {k k2 : Nat} {w2 : World} {B X : Nat} {zs : List Cel} {j : Nat} {u : Value} {cs : List Cel} {z : Cel} {S S2 : Nat → Bool} {f f2 : Nat → Value} {w1 W : World} (hk : ∀ i, Ri.isIn [k, k2] i = true → S2 i = S i ∧ f2 i = f i) (h : CZ k k2 w2 B X zs j u cs z S f w1) (hq : Q w1 W) : CZ k k2 w2 B X zs j u cs z S2 f2 W := by
 obtain ⟨x1, x2⟩ := hk k (by simp [Ri.isIn])
 obtain ⟨y1, y2⟩ := hk k2 (by simp [Ri.isIn])
 obtain ⟨h1, h2, h3, h4⟩ := h
 refine ⟨h1.trans hq, Nat.le_trans h2 hq.size, ?_, ?_⟩
 ·rw [x1, x2]
  split
  ·rename_i hc
   rw [if_pos hc] at h3
   obtain ⟨c, hc⟩ := h3
   exact ⟨c, hc.up hq⟩
  ·rename_i hc
   rw [if_neg hc] at h3
   exact h3.up hq
 ·rw [y1, x2]
  exact blk_q h4 hq
theorem CZ.app {k k2 : Nat} {w2 : World} {B B1 X : Nat} {zs : List Cel} {j : Nat} {u : Value} {cs : List Cel} {z c : Cel} {S : Nat → Bool} {f : Nat → Value} {W w8 : World} (h : CZ k k2 w2 B X zs j u cs z S f W) (hS : S k = false) (hS2 : S k2 = false) (hne : k2 ≠ k) (hX : X < B) (hwB : w2.heap.size ≤ B) (hz : zs[j]? = some z) (hs : c.ske = z) (hc : CelR W c) (hB : B ≤ B1) (hu : ∀ q, u.ownBlock = some q → q < B1) (hb : CelB (fun b => B1 ≤ b ∧ b < W.heap.size) c) {v8 : Value}
  (ho : w8.ownsRow B 31 4 v8 (j + 1) (cs.flatMap encC ++ encC c)) (hg : W.grownBy w8 u.ownBlock) (hv : v8.ownBlock = u.ownBlock ∨ v8.ownBlock = some W.heap.size) : CZ k k2 w2 B X zs j u cs z (Ri.upd S k true) (Ri.upd f k v8) w8 := by
 obtain ⟨h1, h2, h3, h4⟩ := h
 rw [hS, if_neg (by decide)] at h3
 rw [hS2, if_neg (by decide)] at h4
 have hlt := h3.own.lt
 refine ⟨q_grown h1 hg (fun q e => by have := (hlt q e).1; omega), Nat.le_trans h2 hg.size, ?_, ?_⟩
 ·rw [Ri.upd_at, if_pos rfl, Ri.upd_at]
  exact ⟨c, h3.next hz hs hc hB hu hb ho hg hv⟩
 ·rw [Ri.upd_ne _ _ hne, hS2, if_neg (by decide)]
  exact (hg.block X (by omega) (fun e => by have := (hlt X e.symm).1; omega)).trans h4
theorem CZ.store {k k2 : Nat} {w2 : World} {B X : Nat} {zs : List Cel} {j : Nat} {u : Value} {cs : List Cel} {z : Cel} {S : Nat → Bool} {f : Nat → Value} {W : World} (h : CZ k k2 w2 B X zs j u cs z S f W) (hS : S k = true) (hne : k ≠ k2) (hX : X < B) (hwX : w2.heap.size ≤ X) (v : Value) : CZ k k2 w2 B X zs j u cs z (Ri.upd S k2 true) (Ri.upd f k2 v) (W.setCell ⟨X, 3, none⟩ (f k)) := by
 obtain ⟨h1, h2, h3, h4⟩ := h
 rw [hS, if_pos rfl] at h3
 obtain ⟨c, hc⟩ := h3
 refine ⟨h1.set (p := ⟨X, 3, none⟩) hwX _, by simpa using h2, ?_, ?_⟩
 ·rw [Ri.upd_ne _ _ hne, hS, if_pos rfl, Ri.upd_ne _ _ hne]
  exact ⟨c, hc.low hX _⟩
 ·rw [Ri.upd_at, if_pos rfl, Ri.upd_ne _ _ hne]
  exact blk_set h4 (f k)
theorem CZ.end_ {k k2 : Nat} {w2 : World} {B X : Nat} {zs : List Cel} {j : Nat} {u : Value} {cs : List Cel} {z : Cel} {S : Nat → Bool} {f : Nat → Value} {W : World} (h : CZ k k2 w2 B X zs j u cs z S f W) (hS : S k = true) (hS2 : S k2 = true) : Q w2 W ∧ B ≤ W.heap.size ∧ (∃ cs', Zpd B zs (j + 1) (f k) cs' W) ∧ W.heap[X]? = some (.cells #[.int .i64 0, .bool false, .bool false, f k] 31 (0, 0)) := by
 obtain ⟨h1, h2, h3, h4⟩ := h
 rw [hS, if_pos rfl] at h3
 rw [hS2, if_pos rfl] at h4
 obtain ⟨c, hc⟩ := h3
 exact ⟨h1, h2, ⟨_, hc⟩, h4⟩
def PzC (B1 : Nat) (z : Cel) (v : Value) (W : World) : Prop := ∃ c, v = Cel.v c ∧ c.ske = z ∧ CelR W c ∧ CelB (fun b => B1 ≤ b ∧ b < W.heap.size) c
theorem pzC_mono (B1 : Nat) (z : Cel) : Ri.Mono (PzC B1 z) := fun v w1 w2 ⟨c, e, h1, h2, h3⟩ hq => ⟨c, e, h1, h2.up hq, h3.mono fun b hb => ⟨hb.1, Nat.lt_of_lt_of_le hb.2 hq.size⟩⟩
def PzR (B1 : Nat) (z : Cel) (v : Value) (W : World) : Prop := ∃ c b, v = .slice (some ⟨b, 0, none⟩) 1 1 ∧ b < W.heap.size ∧ (∀ (j : Nat) u, (encC c)[j]? = some u → W.cell? ⟨b, j, none⟩ = some u) ∧ c.ske = z ∧ CelR W c ∧ CelB (fun b => B1 ≤ b ∧ b < W.heap.size) c
theorem pzR_mono (B1 : Nat) (z : Cel) : Ri.Mono (PzR B1 z) := fun v w1 w2 ⟨c, b, e, h0, h, h1, h2, h3⟩ hq => ⟨c, b, e, Nat.lt_of_lt_of_le h0 hq.size, fun j u hu => (hq.facts.1 _ _ h0).trans (h j u hu), h1, h2.up hq, h3.mono fun b hb => ⟨hb.1, Nat.lt_of_lt_of_le hb.2 hq.size⟩⟩
def ZrP (W : World) (z : Cel) (e : Ending) (w' : World) : Prop := ∃ c, e = .returned (Cel.v c) ∧ c.ske = z ∧ CelR w' c ∧ CelB (fun b => W.heap.size ≤ b ∧ b < w'.heap.size) c ∧ Q W w'
namespace Ri
theorem wp_appZ {P : Program} {t e size bytes : Nat} {w : World} {base : Nat} {R : Exit → Act → World → Prop} {o : Oper} {A : Act} {D φ : Value → World → Prop} (E : El P t e size bytes) (s x : Operand) (ho : o.op = .call { callee := .builtin .append, args := #[s, x], argTypes := #[t, t] })
  {v : Value} {n k m c : Nat} {xs news : List Value} (hs : A.eval s = v) (hx : A.eval x = .slice (some ⟨k, 0, none⟩) m c) (hown : w.ownsRow base e size v n xs) (hl : news.length = m * size) (hr : ∀ j u, news[j]? = some u → w.cell? ⟨k, j, none⟩ = some u) (h1 : ∀ u ∈ news, u.oneCell' = true)
  (hm : 0 < m) (hb : (n + m) * bytes ≤ 140737488355328) (hbase : base ≤ w.heap.size) (h : ∀ v' w', w'.ownsRow base e size v' (n + m) (xs ++ news) → w.grownBy w' v.ownBlock → (v'.ownBlock = v.ownBlock ∨ v'.ownBlock = some w.heap.size) → D v' w' ∧ φ v' w') :
  o.wp P A w (fun a' w' => ∃ v, a' = A.put o.dst v ∧ D v w' ∧ φ v w') R := by
 obtain ⟨i, z, hi, hz, hsz, hby, hzs⟩ := E.inf
 have hle : n + m ≤ (n + m) * bytes := Nat.le_mul_of_pos_right _ E.bpos
 obtain ⟨v', w', hr2, h2, h3, h4⟩ := run_append_blk (P := P) (w := w) base t o.type e i z size bytes E.und hi hz hsz hby hzs E.pos v n xs hown ⟨k, 0, none⟩ m c news hl (fun j u hu => by rw [addr_add, Nat.zero_add]; exact hr j u hu) h1 hm (by simp only [maxLen]; omega) hb hbase
 unfold Oper.wp execOp
 simp only [ho, resolve, invoke, builtin, Sem.run_bind, Sem.run_pure, Result.andThen_ok, List.map_toArray, List.map_cons, List.map_nil, hs, hx, hr2]
 obtain ⟨x1, x2⟩ := h v' w' h2 h3 h4
 exact ⟨v', rfl, x1, x2⟩
theorem run_subC {P : Program} {o : Oper} {A : Act} {w : World} {x y : Operand} {t t' : TypeId} {p u : Int} (ho : o.op = .binOp .sub t x y t') (hx : A.eval x = .int .i64 p) (hy : A.eval y = .int .i64 u) (hu : P.underlying t = some (.int .i64)) (h0 : -9223372036854775808 ≤ p - u) (h1 : p - u ≤ 9223372036854775807) : (execOp A.eval o).run P w = .ok (.value (.int .i64 (p - u))) w := by
 have e : IntKind.i64.wrap (p - u) = p - u := by rw [IntKind.wrap_i64]; omega
 unfold execOp
 simp only [ho, hx, hy]
 simp [go_sem, e]
theorem run_miniC {P : Program} {o : Oper} {A : Act} {w : World} {x y : Operand} {t t' : TypeId} {p u : Int} (ho : o.op = .call { callee := .builtin .min, args := #[x, y], argTypes := #[t, t'] }) (hx : A.eval x = .int .i64 p) (hy : A.eval y = .int .i64 u) : (execOp A.eval o).run P w = .ok (.value (.int .i64 (min p u))) w := by
 unfold execOp
 have e : min p u = if u < p then u else p := by
  split
  ·exact Int.min_eq_right (by omega)
  ·exact Int.min_eq_left (by omega)
 rw [e]
 simp only [ho, resolve, invoke, builtin, Sem.run_bind, Sem.run_pure, Result.andThen_ok, List.map_toArray, List.map_cons, List.map_nil, hx, hy]
 simp [Builtin.min_, Builtin.min2]
end Ri
theorem celR_nil (w : World) (a : Bool) : CelR w (.mk 0 a false none 0 0 []) := .mk rfl (Sl.nil w) (fun _ => ⟨rfl, rfl⟩) (by decide) (fun p h => by cases h)
theorem celB_nil (P : Nat → Prop) (a : Bool) : CelB P (.mk 0 a false none 0 0 []) := .mk (fun x h => by cases h) (fun p h => by cases h)
theorem zr_end {W wX : World} {g : Nat} {n : Int} {a b : Bool} {A : Option Addr} {len cap : Nat} {ps : List Cel} {z : Cel} {B : Nat} (hq : Q W wX) (hg : W.heap.size ≤ g) (hgB : g < B) (hR : CelR wX (.mk n a b A len cap ps)) (hB : CelB (fun x => B ≤ x ∧ x < wX.heap.size) (.mk n a b A len cap ps)) (hs : (Cel.mk n a b A len cap ps).ske = z) :
  ZrP W z (.returned (.agg #[.int .i64 n, .bool a, .bool b, .slice A len cap])) ((((wX.setCell ⟨g, 0, none⟩ (.int .i64 n)).setCell ⟨g, 1, none⟩ (.bool a)).setCell ⟨g, 2, none⟩ (.bool b)).setCell ⟨g, 3, none⟩ (.slice A len cap)) := by
 refine ⟨.mk n a b A len cap ps, rfl, hs, hR.frame' (P := fun x => B ≤ x ∧ x < wX.heap.size) (fun i hi _ => ?_) (by simp) hB, hB.mono fun b hb => ⟨by omega, by simpa using hb.2⟩, q_set4 _ _ _ _ hq hg⟩
 have := hi.1
 rw [heap_setCell_other _ _ _ _ (by simp; omega), heap_setCell_other _ _ _ _ (by simp; omega), heap_setCell_other _ _ _ _ (by simp; omega), heap_setCell_other _ _ _ _ (by simp; omega)]
def PzC2 (B : Nat) (u : Value) (z : Cel) (v : Value) (W : World) : Prop := ∃ B1, B ≤ B1 ∧ (∀ q, u.ownBlock = some q → q < B1) ∧ PzC B1 z v W
theorem pzC2_mono (B : Nat) (u : Value) (z : Cel) : Ri.Mono (PzC2 B u z) := fun v w1 w2 ⟨B1, h1, h2, h3⟩ hq => ⟨B1, h1, h2, pzC_mono B1 z v w1 w2 h3 hq⟩
def PzR2 (B : Nat) (u : Value) (z : Cel) (v : Value) (W : World) : Prop := ∃ B1, B ≤ B1 ∧ (∀ q, u.ownBlock = some q → q < B1) ∧ PzR B1 z v W
theorem pzR2_mono (B : Nat) (u : Value) (z : Cel) : Ri.Mono (PzR2 B u z) := fun v w1 w2 ⟨B1, h1, h2, h3⟩ hq => ⟨B1, h1, h2, pzR_mono B1 z v w1 w2 h3 hq⟩
theorem one_row {w : World} {c : Cel} (h : CelR w c) {C : Array Value} (hC : C.toList = encC c) {B : Nat} (hb : CelB (fun b => B ≤ b ∧ b < w.heap.size) c) (hB : B ≤ w.heap.size) : CelR (w.alloc (.cells C 31)) (.mk 0 false false (some ⟨w.heap.size, 0, none⟩) 1 1 [c]) ∧ CelB (fun b => B ≤ b ∧ b < (w.alloc (.cells C 31)).heap.size) (.mk 0 false false (some ⟨w.heap.size, 0, none⟩) 1 1 [c]) := by
 refine ⟨.mk rfl ⟨.inr ⟨w.heap.size, 0, rfl, by simp, fun j u hu => ?_⟩, rfl, Nat.le_refl _, by decide⟩ (fun e => by cases e) (by decide) (fun p hp => ?_), .mk (fun x hx => ?_) (fun p hp => ?_)⟩
 ·rw [Nat.zero_add]
  refine cell_blkJ (heap_alloc_new w _) ?_
  rw [List.flatMap_cons, List.flatMap_nil, List.append_nil, ← hC] at hu
  simpa using hu
 ·rw [List.mem_singleton] at hp
  subst hp
  exact h.up ((Q.refl _).alloc _)
 ·injection hx with hx
  subst hx
  exact ⟨hB, by simp⟩
 ·rw [List.mem_singleton] at hp
  subst hp
  exact hb.mono fun b hb => ⟨hb.1, by simp; omega⟩
theorem zeroP_no {w : World} {k n : Int} {f : Bool} {A : Option Addr} {len cap : Nat} {ps : List Lay} (hl : LayR w (.mk k n f A len cap ps)) (hv : VL (.mk k n f A len cap ps)) (ih : ∀ p ∈ ps, ∀ W, Q w W → Calls Try.prog 51 #[p.v] W (fun e w' => ZrP W p.zero e w')) (hk : ¬ (k = 4 ∨ k = 5 ∨ k = 6 ∨ k = 8 ∨ k = 9)) : ∀ W, Q w W → Calls Try.prog 51 #[.agg #[.int .i64 k, .int .i64 n, .bool f, .slice A len cap]] W (fun e w' => ZrP W (zeroC k n (ps.map Lay.zero)) e w') := by
 intro W hqW
 have HSL : Hid (Sl 4 encL w A len cap ps) := by cases hl with | @mk _ _ _ _ _ _ _ hk hn hsl hnil hcap hall => exact hide hsl
 have hpl := HSL.out.len
 have hl12 : len ≤ 12 := by have := hv.len.1; omega
 have HIH := hide ih
 have HV := hide hv
 obtain ⟨w2, hw2⟩ : ∃ w2, (W.alloc (.cells #[.int .i64 k, .int .i64 n, .bool f, .slice A len cap] 24)).alloc (.cells #[.int .i64 0, .bool false, .bool false, .slice none 0 0] 31) = w2 := ⟨_, rfl⟩
 obtain ⟨hq2, hs2, hc2, hd2⟩ := box2 hw2
 have hb0 : W.heap.size < w2.heap.size := by omega
 have hb1 : W.heap.size + 1 < w2.heap.size := by omega
 have kb1 : w2.heap[W.heap.size + 1]? = some (.cells #[.int .i64 0, .bool false, .bool false, .slice none 0 0] 31 (0, 0)) := by
  have h9 := heap_alloc_new (W.alloc (.cells #[.int .i64 k, .int .i64 n, .bool f, .slice A len cap] 24)) (.cells #[.int .i64 0, .bool false, .bool false, .slice none 0 0] 31)
  rw [hw2] at h9
  simpa using h9
 have KA := hide fun X (hX : Q w2 X) => (cs4 hX hb0 hc2 : Cs4 X W.heap.size (.int .i64 k) (.int .i64 n) (.bool f) (.slice A len cap))
 have KB : Hid (∀ X, Q w2 X → X.heap[W.heap.size + 1]? = some (.cells #[.int .i64 0, .bool false, .bool false, .slice none 0 0] 31 (0, 0))) := hide fun X hX => blk_q kb1 hX
 have HW2 := hide hw2
 have HQ2 := hide hq2
 have HWQ := hide (hqW.trans hq2)
 clear hl hv ih hqW hw2 hc2 hd2 hq2 kb1
 have d4 : (k == 4) = false := by simp; omega
 have d5 : (k == 5) = false := by simp; omega
 have d6 : (k == 6) = false := by simp; omega
 have d8 : (k == 8) = false := by simp; omega
 have d9 : (k == 9) = false := by simp; omega
 have RES := hide (zeroC_no hk n (ps.map Lay.zero))
 clear hk
 obtain ⟨k0, k1, k2, k3⟩ := KA.out w2 (Q.refl _)
 go_enter Try.func51, Try.ntmps51
 go_upto_region 1 with fail
 rw [HW2.out]
 have kb1 := KB.out w2 (Q.refl _)
 have v0 : w2.cell? ⟨W.heap.size + 1, 0, none⟩ = some (.int .i64 0) := cell_blkJ kb1 rfl
 have vf0 : w2.frozen? ⟨W.heap.size + 1, 0, none⟩ = false := frz_new (j := 0) kb1
 have v1 : w2.cell? ⟨W.heap.size + 1, 1, none⟩ = some (.bool false) := cell_blkJ kb1 rfl
 have vf1 : w2.frozen? ⟨W.heap.size + 1, 1, none⟩ = false := frz_new (j := 1) kb1
 have v2 : w2.cell? ⟨W.heap.size + 1, 2, none⟩ = some (.bool false) := cell_blkJ kb1 rfl
 have vf2 : w2.frozen? ⟨W.heap.size + 1, 2, none⟩ = false := frz_new (j := 2) kb1
 have v3 : w2.cell? ⟨W.heap.size + 1, 3, none⟩ = some (.slice none 0 0) := cell_blkJ kb1 rfl
 have vf3 : w2.frozen? ⟨W.heap.size + 1, 3, none⟩ = false := frz_new (j := 3) kb1
 clear kb1
 have HS5 := hide (set4c (w := w2) (.int .i64 0) (.bool false) (.bool false) (.slice none 0 0) v0 v1 v2 v3 _ rfl)
 go_wp2_with fail
 obtain ⟨s0, s1, s2, s3⟩ := HS5.out
 refine bodyPost_ret (v := .agg #[.int .i64 0, .bool false, .bool false, .slice none 0 0]) (by simp [results, Try.results51, go_sem, s0, s1, s2, s3]) rfl ?_
 exact zr_end HQ2.out (by omega) (Nat.lt_succ_self _) (celR_nil _ _) (celB_nil _ _) (by rw [RES.out, skeC_mk]; rfl)
theorem zeroP_4 {w : World} {k n : Int} {f : Bool} {A : Option Addr} {len cap : Nat} {ps : List Lay} (hl : LayR w (.mk k n f A len cap ps)) (hv : VL (.mk k n f A len cap ps)) (ih : ∀ p ∈ ps, ∀ W, Q w W → Calls Try.prog 51 #[p.v] W (fun e w' => ZrP W p.zero e w')) (hk : k = 4) : ∀ W, Q w W → Calls Try.prog 51 #[.agg #[.int .i64 k, .int .i64 n, .bool f, .slice A len cap]] W (fun e w' => ZrP W (zeroC k n (ps.map Lay.zero)) e w') := by
 subst hk
 intro W hqW
 have HSL : Hid (Sl 4 encL w A len cap ps) := by cases hl with | @mk _ _ _ _ _ _ _ hk hn hsl hnil hcap hall => exact hide hsl
 have hpl := HSL.out.len
 have hl12 : len ≤ 12 := by have := hv.len.1; omega
 have HIH := hide ih
 have HV := hide hv
 obtain ⟨w2, hw2⟩ : ∃ w2, (W.alloc (.cells #[.int .i64 4, .int .i64 n, .bool f, .slice A len cap] 24)).alloc (.cells #[.int .i64 0, .bool false, .bool false, .slice none 0 0] 31) = w2 := ⟨_, rfl⟩
 obtain ⟨hq2, hs2, hc2, hd2⟩ := box2 hw2
 have hb0 : W.heap.size < w2.heap.size := by omega
 have hb1 : W.heap.size + 1 < w2.heap.size := by omega
 have kb1 : w2.heap[W.heap.size + 1]? = some (.cells #[.int .i64 0, .bool false, .bool false, .slice none 0 0] 31 (0, 0)) := by
  have h9 := heap_alloc_new (W.alloc (.cells #[.int .i64 4, .int .i64 n, .bool f, .slice A len cap] 24)) (.cells #[.int .i64 0, .bool false, .bool false, .slice none 0 0] 31)
  rw [hw2] at h9
  simpa using h9
 have KA := hide fun X (hX : Q w2 X) => (cs4 hX hb0 hc2 : Cs4 X W.heap.size (.int .i64 4) (.int .i64 n) (.bool f) (.slice A len cap))
 have KB : Hid (∀ X, Q w2 X → X.heap[W.heap.size + 1]? = some (.cells #[.int .i64 0, .bool false, .bool false, .slice none 0 0] 31 (0, 0))) := hide fun X hX => blk_q kb1 hX
 have HW2 := hide hw2
 have HQ2 := hide hq2
 have HWQ := hide (hqW.trans hq2)
 clear hl hv ih hqW hw2 hc2 hd2 hq2 kb1
 have RES := hide (zeroC_4 n (ps.map Lay.zero))
 obtain ⟨k0, k1, k2, k3⟩ := KA.out w2 (Q.refl _)
 go_enter Try.func51, Try.ntmps51
 go_upto_region 1 with fail
 rw [HW2.out]
 have kb1 := KB.out w2 (Q.refl _)
 have v0 : w2.cell? ⟨W.heap.size + 1, 0, none⟩ = some (.int .i64 0) := cell_blkJ kb1 rfl
 have vf0 : w2.frozen? ⟨W.heap.size + 1, 0, none⟩ = false := frz_new (j := 0) kb1
 have v1 : w2.cell? ⟨W.heap.size + 1, 1, none⟩ = some (.bool false) := cell_blkJ kb1 rfl
 have vf1 : w2.frozen? ⟨W.heap.size + 1, 1, none⟩ = false := frz_new (j := 1) kb1
 have v2 : w2.cell? ⟨W.heap.size + 1, 2, none⟩ = some (.bool false) := cell_blkJ kb1 rfl
 have vf2 : w2.frozen? ⟨W.heap.size + 1, 2, none⟩ = false := frz_new (j := 2) kb1
 have v3 : w2.cell? ⟨W.heap.size + 1, 3, none⟩ = some (.slice none 0 0) := cell_blkJ kb1 rfl
 have vf3 : w2.frozen? ⟨W.heap.size + 1, 3, none⟩ = false := frz_new (j := 3) kb1
 clear kb1
 have HS5 := hide (set4c (w := w2) (.int .i64 0) (.bool true) (.bool false) (.slice none 0 0) v0 v1 v2 v3 _ rfl)
 go_wp2_with fail
 obtain ⟨s0, s1, s2, s3⟩ := HS5.out
 refine bodyPost_ret (v := .agg #[.int .i64 0, .bool true, .bool false, .slice none 0 0]) (by simp [results, Try.results51, go_sem, s0, s1, s2, s3]) rfl ?_
 exact zr_end HQ2.out (by omega) (Nat.lt_succ_self _) (celR_nil _ _) (celB_nil _ _) (by rw [RES.out, skeC_mk]; rfl)
theorem zeroP_8 {w : World} {k n : Int} {f : Bool} {A : Option Addr} {len cap : Nat} {ps : List Lay} (hl : LayR w (.mk k n f A len cap ps)) (hv : VL (.mk k n f A len cap ps)) (ih : ∀ p ∈ ps, ∀ W, Q w W → Calls Try.prog 51 #[p.v] W (fun e w' => ZrP W p.zero e w')) (hk : k = 8) : ∀ W, Q w W → Calls Try.prog 51 #[.agg #[.int .i64 k, .int .i64 n, .bool f, .slice A len cap]] W (fun e w' => ZrP W (zeroC k n (ps.map Lay.zero)) e w') := by
 subst hk
 intro W hqW
 have HSL : Hid (Sl 4 encL w A len cap ps) := by cases hl with | @mk _ _ _ _ _ _ _ hk hn hsl hnil hcap hall => exact hide hsl
 have hpl := HSL.out.len
 have hl12 : len ≤ 12 := by have := hv.len.1; omega
 have HIH := hide ih
 have HV := hide hv
 obtain ⟨w2, hw2⟩ : ∃ w2, (W.alloc (.cells #[.int .i64 8, .int .i64 n, .bool f, .slice A len cap] 24)).alloc (.cells #[.int .i64 0, .bool false, .bool false, .slice none 0 0] 31) = w2 := ⟨_, rfl⟩
 obtain ⟨hq2, hs2, hc2, hd2⟩ := box2 hw2
 have hb0 : W.heap.size < w2.heap.size := by omega
 have hb1 : W.heap.size + 1 < w2.heap.size := by omega
 have kb1 : w2.heap[W.heap.size + 1]? = some (.cells #[.int .i64 0, .bool false, .bool false, .slice none 0 0] 31 (0, 0)) := by
  have h9 := heap_alloc_new (W.alloc (.cells #[.int .i64 8, .int .i64 n, .bool f, .slice A len cap] 24)) (.cells #[.int .i64 0, .bool false, .bool false, .slice none 0 0] 31)
  rw [hw2] at h9
  simpa using h9
 have KA := hide fun X (hX : Q w2 X) => (cs4 hX hb0 hc2 : Cs4 X W.heap.size (.int .i64 8) (.int .i64 n) (.bool f) (.slice A len cap))
 have KB : Hid (∀ X, Q w2 X → X.heap[W.heap.size + 1]? = some (.cells #[.int .i64 0, .bool false, .bool false, .slice none 0 0] 31 (0, 0))) := hide fun X hX => blk_q kb1 hX
 have HW2 := hide hw2
 have HQ2 := hide hq2
 have HWQ := hide (hqW.trans hq2)
 clear hl hv ih hqW hw2 hc2 hd2 hq2 kb1
 have hlt0 : 0 < len := by
  have h8 := HV.out.kind.2.2.1
  unfold numL at h8
  rw [if_neg (by decide), if_neg (by decide), if_pos rfl, decide_eq_true_eq] at h8
  omega
 obtain ⟨g, o, m', x', y', B, l', d', qs1, e, hbp, hxp, z0, z1, z2, z3⟩ := lay_at (HSL.out.up HWQ.out) hlt0
 cases e
 obtain ⟨p, hpe⟩ : ∃ p, Lay.mk m' x' y' B l' d' qs1 = p := ⟨_, rfl⟩
 have hpv : p.v = .agg #[.int .i64 m', .int .i64 x', .bool y', .slice B l' d'] := by rw [← hpe]; rfl
 rw [hpe] at hxp
 rw [Nat.zero_mul, Nat.add_zero] at z0 z1 z2 z3
 have hl0 : (0 : Int) < (len : Int) := by omega
 have HIP := hide (HIH.out p (List.mem_of_getElem? hxp))
 rw [hpv] at HIP
 have RES : Hid (zeroC 8 n (ps.map Lay.zero) = .mk 0 false false none 0 0 [p.zero]) := hide (by
  rw [zeroC_8]
  cases ps with
  | nil => cases hxp
  | cons q r =>
   injection hxp with hxp
   rw [List.map_cons, hxp]
   rfl)
 clear hxp hpe hpv hbp
 obtain ⟨k0, k1, k2, k3⟩ := KA.out w2 (Q.refl _)
 go_enter Try.func51, Try.ntmps51
 go_upto_region 1 with fail
 rw [HW2.out]
 go_wp2_with fail
 refine (HIP.out w2 HWQ.out).mono ?_
 rintro e w5 ⟨c0, rfl, hsk, hcr, hcb, hq5⟩
 obtain ⟨X0, X1, X2, A0, l0, d0, qs0, hce⟩ : ∃ X0 X1 X2 A0 l0 d0 qs0, c0 = Cel.mk X0 X1 X2 A0 l0 d0 qs0 := by cases c0; exact ⟨_, _, _, _, _, _, _, rfl⟩
 have hcv : c0.v = .agg #[.int .i64 X0, .bool X1, .bool X2, .slice A0 l0 d0] := by rw [hce]; rfl
 rw [hcv]
 have hs5 := hq5.size
 obtain ⟨r1, r2⟩ := one_row hcr (C := #[.int .i64 X0, .bool X1, .bool X2, .slice A0 l0 d0]) (by rw [hce]; rfl) hcb hs5
 have hsk2 : (Cel.mk 0 false false (some ⟨w5.heap.size, 0, none⟩) 1 1 [c0]).ske = .mk 0 false false none 0 0 [p.zero] := by rw [skeC_mk, List.map_cons, hsk]; rfl
 have HR1 := hide r1
 have HR2 := hide r2
 have HSK := hide hsk2
 have Q25 := hide hq5
 have QW5 := hide (show Q W (w5.alloc (.cells #[.int .i64 X0, .bool X1, .bool X2, .slice A0 l0 d0] 31)) from (HQ2.out.trans hq5).alloc _)
 clear hsk hcr hcb hcv hce r1 r2 hsk2 k0 k1 k2 k3 z0 z1 z2 z3
 have kb1 := KB.out (w5.alloc (.cells #[.int .i64 X0, .bool X1, .bool X2, .slice A0 l0 d0] 31)) (hq5.alloc _)
 have v0 : (w5.alloc (.cells #[.int .i64 X0, .bool X1, .bool X2, .slice A0 l0 d0] 31)).cell? ⟨W.heap.size + 1, 0, none⟩ = some (.int .i64 0) := cell_blkJ kb1 rfl
 have vf0 : (w5.alloc (.cells #[.int .i64 X0, .bool X1, .bool X2, .slice A0 l0 d0] 31)).frozen? ⟨W.heap.size + 1, 0, none⟩ = false := frz_new (j := 0) kb1
 have v1 : (w5.alloc (.cells #[.int .i64 X0, .bool X1, .bool X2, .slice A0 l0 d0] 31)).cell? ⟨W.heap.size + 1, 1, none⟩ = some (.bool false) := cell_blkJ kb1 rfl
 have vf1 : (w5.alloc (.cells #[.int .i64 X0, .bool X1, .bool X2, .slice A0 l0 d0] 31)).frozen? ⟨W.heap.size + 1, 1, none⟩ = false := frz_new (j := 1) kb1
 have v2 : (w5.alloc (.cells #[.int .i64 X0, .bool X1, .bool X2, .slice A0 l0 d0] 31)).cell? ⟨W.heap.size + 1, 2, none⟩ = some (.bool false) := cell_blkJ kb1 rfl
 have vf2 : (w5.alloc (.cells #[.int .i64 X0, .bool X1, .bool X2, .slice A0 l0 d0] 31)).frozen? ⟨W.heap.size + 1, 2, none⟩ = false := frz_new (j := 2) kb1
 have v3 : (w5.alloc (.cells #[.int .i64 X0, .bool X1, .bool X2, .slice A0 l0 d0] 31)).cell? ⟨W.heap.size + 1, 3, none⟩ = some (.slice none 0 0) := cell_blkJ kb1 rfl
 have vf3 : (w5.alloc (.cells #[.int .i64 X0, .bool X1, .bool X2, .slice A0 l0 d0] 31)).frozen? ⟨W.heap.size + 1, 3, none⟩ = false := frz_new (j := 3) kb1
 clear kb1
 clear hq5
 have HS5 := hide (set4c (w := (w5.alloc (.cells #[.int .i64 X0, .bool X1, .bool X2, .slice A0 l0 d0] 31))) (.int .i64 0) (.bool false) (.bool false) (.slice (some ⟨w5.heap.size, 0, none⟩) 1 1) v0 v1 v2 v3 _ rfl)
 go_wp2_with fail
 obtain ⟨s0, s1, s2, s3⟩ := HS5.out
 refine bodyPost_ret (v := .agg #[.int .i64 0, .bool false, .bool false, .slice (some ⟨w5.heap.size, 0, none⟩) 1 1]) (by simp [results, Try.results51, go_sem, s0, s1, s2, s3]) rfl ?_
 exact zr_end QW5.out (by omega) (show W.heap.size + 1 < w2.heap.size by omega) HR1.out HR2.out (HSK.out.trans RES.out.symm)
theorem zeroP_5 {w : World} {k n : Int} {f : Bool} {A : Option Addr} {len cap : Nat} {ps : List Lay} (hl : LayR w (.mk k n f A len cap ps)) (hv : VL (.mk k n f A len cap ps)) (ih : ∀ p ∈ ps, ∀ W, Q w W → Calls Try.prog 51 #[p.v] W (fun e w' => ZrP W p.zero e w')) (hk : k = 5) : ∀ W, Q w W → Calls Try.prog 51 #[.agg #[.int .i64 k, .int .i64 n, .bool f, .slice A len cap]] W (fun e w' => ZrP W (zeroC k n (ps.map Lay.zero)) e w') := by
 subst hk
 intro W hqW
 have HSL : Hid (Sl 4 encL w A len cap ps) := by cases hl with | @mk _ _ _ _ _ _ _ hk hn hsl hnil hcap hall => exact hide hsl
 have hpl := HSL.out.len
 have hl12 : len ≤ 12 := by have := hv.len.1; omega
 have HIH := hide ih
 have HV := hide hv
 obtain ⟨w2, hw2⟩ : ∃ w2, (W.alloc (.cells #[.int .i64 5, .int .i64 n, .bool f, .slice A len cap] 24)).alloc (.cells #[.int .i64 0, .bool false, .bool false, .slice none 0 0] 31) = w2 := ⟨_, rfl⟩
 obtain ⟨hq2, hs2, hc2, hd2⟩ := box2 hw2
 have hb0 : W.heap.size < w2.heap.size := by omega
 have hb1 : W.heap.size + 1 < w2.heap.size := by omega
 have kb1 : w2.heap[W.heap.size + 1]? = some (.cells #[.int .i64 0, .bool false, .bool false, .slice none 0 0] 31 (0, 0)) := by
  have h9 := heap_alloc_new (W.alloc (.cells #[.int .i64 5, .int .i64 n, .bool f, .slice A len cap] 24)) (.cells #[.int .i64 0, .bool false, .bool false, .slice none 0 0] 31)
  rw [hw2] at h9
  simpa using h9
 have KA := hide fun X (hX : Q w2 X) => (cs4 hX hb0 hc2 : Cs4 X W.heap.size (.int .i64 5) (.int .i64 n) (.bool f) (.slice A len cap))
 have KB : Hid (∀ X, Q w2 X → X.heap[W.heap.size + 1]? = some (.cells #[.int .i64 0, .bool false, .bool false, .slice none 0 0] 31 (0, 0))) := hide fun X hX => blk_q kb1 hX
 have HW2 := hide hw2
 have HQ2 := hide hq2
 have HWQ := hide (hqW.trans hq2)
 clear hl hv ih hqW hw2 hc2 hd2 hq2 kb1
 have hn5 : 0 ≤ n ∧ n ≤ 1000 := by
  have h1 := HV.out.kind.2.2.2
  unfold restL at h1
  rw [if_neg (by decide), if_pos rfl, decide_eq_true_eq] at h1
  exact ⟨h1, HV.out.len.2.2.1 rfl⟩
 have hlen1 : len = 1 := by
  have h8 := HV.out.kind.2.2.1
  unfold numL at h8
  rw [if_pos (.inr rfl), decide_eq_true_eq] at h8
  exact hpl.symm.trans h8
 obtain ⟨m, hm⟩ : ∃ m : Nat, n = (m : Int) := ⟨n.toNat, by omega⟩
 have hm1 : m ≤ 1000 := by omega
 obtain ⟨zs, hzs⟩ : ∃ zs, List.replicate m ((ps.map Lay.zero).headD default) = zs := ⟨_, rfl⟩
 have RES : Hid (zeroC 5 n (ps.map Lay.zero) = .mk 0 false false none 0 0 zs) := hide (by rw [zeroC_5, hm, Int.toNat_natCast, hzs])
 have HZL : Hid (zs.length = m) := hide (by rw [← hzs, List.length_replicate])
 have HIDX : Hid (∀ j, j < m → min j (len - 1) < len ∧ min (j : Int) ((len : Int) - 1) = ((min j (len - 1) : Nat) : Int) ∧ ∀ p, ps[min j (len - 1)]? = some p → zs[j]? = some p.zero) := hide (fun j hj => ⟨by omega, by omega, fun p hp => by
  rw [hlen1, Nat.sub_self, Nat.min_zero] at hp
  rw [← hzs, List.getElem?_replicate, if_pos hj]
  cases ps with
  | nil => cases hp
  | cons q r =>
   injection hp with hp
   rw [hp]
   rfl⟩)
 have HCT := hide (ccount_any 5 n f A len cap)
 rw [if_pos rfl] at HCT
 subst hm
 clear hzs hlen1 hn5 hpl
 unfold R1 at HCT
 obtain ⟨w3, hw3⟩ : ∃ w3, w2.alloc (.cells #[.int .i64 0, .bool false, .bool false, .slice none 0 0] 31) = w3 := ⟨_, rfl⟩
 have hq3 : Q w2 w3 := by rw [← hw3]; exact (Q.refl _).alloc _
 have hs3 : w3.heap.size = W.heap.size + 3 := by rw [← hw3]; simp; omega
 have hx3 : w3.heap[W.heap.size + 2]? = some (.cells #[.int .i64 0, .bool false, .bool false, .slice none 0 0] 31 (0, 0)) := by rw [← hw3, ← hs2]; exact heap_alloc_new w2 _
 have HW3 := hide hw3
 have Q23 := hide hq3
 have HX3 := hide hx3
 clear hw3 hq3 hx3
 obtain ⟨k0, k1, k2, k3⟩ := KA.out w2 (Q.refl _)
 go_enter Try.func51, Try.ntmps51
 go_upto_region 1 with fail
 rw [HW2.out]
 have hal := (Q.refl w2).alloc (.cells #[.int .i64 0, .bool false, .bool false, .slice none 0 0] 31)
 obtain ⟨y0, y1, y2, y3⟩ := KA.out _ hal
 clear hal
 go_wp2_with fail
 refine (HCT.out _).mono ?_
 rintro e w4 ⟨rfl, hq4⟩
 rw [HW3.out] at hq4
 clear y0 y1 y2 y3
 have Q24 := hide (Q23.out.trans hq4)
 have hs4 := hq4.size
 have HX4 := hide (blk_q HX3.out hq4)
 clear hq4 k0 k1 k2 k3
 go_wp2_with fail
 go_loopw [25] (fun vi wr => ∃ (j : Nat) (u : Value) (cs : List Cel), j ≤ m ∧ vi = .int .i64 j ∧ Zpd (W.heap.size + 3) zs j u cs wr ∧ wr.heap[W.heap.size + 2]? = some (.cells #[.int .i64 0, .bool false, .bool false, u] 31 (0, 0)) ∧ W.heap.size + 3 ≤ wr.heap.size ∧ Q w2 wr) (fun vi _ => m - (intOf vi).toNat)
 case atStart => exact ⟨0, .slice none 0 0, [], by omega, by go_num, Zpd.start _ zs _, HX4.out, by omega, Q24.out⟩
 case round =>
  obtain ⟨j, u, cs, hj, rfl, hzp, hbx, hbs, hq⟩ := hrel
  have HQ := hide hq
  have HZP := hide hzp
  have HBX := hide hbx
  have HBS := hide hbs
  by_cases hlt9 : j < m
  ·have hd1 : decide ((j : Int) < (m : Int)) = true := by simp; omega
   have hd0 : decide (j < m) = true := by simp; omega
   have hlti : (j : Int) < (m : Int) := by omega
   obtain ⟨hi2, hi3, hzj⟩ := HIDX.out j hlt9
   obtain ⟨i, hi⟩ : ∃ i, min j (len - 1) = i := ⟨_, rfl⟩
   rw [hi] at hi2 hi3 hzj
   obtain ⟨g, o, m', x', y', B, l', d', qs1, e, hbp, hxp, z0, z1, z2, z3⟩ := lay_at (HSL.out.up HWQ.out) hi2
   cases e
   obtain ⟨p, hpe⟩ : ∃ p, Lay.mk m' x' y' B l' d' qs1 = p := ⟨_, rfl⟩
   have hpv : p.v = .agg #[.int .i64 m', .int .i64 x', .bool y', .slice B l' d'] := by rw [← hpe]; rfl
   rw [hpe] at hxp
   have HIP := hide (HIH.out p (List.mem_of_getElem? hxp))
   rw [hpv] at HIP
   obtain ⟨z, hz⟩ : ∃ z, p.zero = z := ⟨_, rfl⟩
   rw [hz] at HIP
   have HZJ : Hid (zs[j]? = some z) := hide (by rw [hzj p hxp, hz])
   have HI2 := hide hi2
   have HI3 := hide hi3
   have KP : Hid (∀ X, Q w2 X → X.cell? ⟨g, o + i * 4, none⟩ = some (.int .i64 m') ∧ X.cell? ⟨g, o + i * 4 + 1, none⟩ = some (.int .i64 x') ∧ X.cell? ⟨g, o + i * 4 + 2, none⟩ = some (.bool y') ∧ X.cell? ⟨g, o + i * 4 + 3, none⟩ = some (.slice B l' d')) := hide fun X hX => ⟨(hX.facts.1 _ _ hbp).trans z0, (hX.facts.1 _ _ hbp).trans z1, (hX.facts.1 _ _ hbp).trans z2, (hX.facts.1 _ _ hbp).trans z3⟩
   clear hi2 hi3 hzj hi hbp hxp hpe hpv hz z0 z1 z2 z3 hzp hbx hbs hq
   go_upto_region 13 with fail
   refine Ri.madeY (C := CZ 14 16 w2 (W.heap.size + 3) (W.heap.size + 2) zs j u cs z) [14, 16] [0, 1, 2, 3, 4, 5, 6, 7, 8, 9, 10, 11, 14, 15, 16] [0, 1, 2, 3, 4, 5, 6, 7, 8, 9, 10, 11, 12, 15, 16] (fun S0 S2 f f2 w1 w2 hk hq9 hq => hq9.q hk hq) (Ri.phi [Ri.isV (.pointer (some ⟨W.heap.size + 2, 3, none⟩)), Ri.isV (u), Ri.isV (.pointer (some ⟨W.heap.size, 3, none⟩)), Ri.isV (.slice (some ⟨g, o, none⟩) len cap), Ri.isV (.int .i64 ((j : Nat) : Int)), Ri.isV (.pointer (some ⟨W.heap.size, 3, none⟩)), Ri.isV (.slice (some ⟨g, o, none⟩) len cap), Ri.isV (.int .i64 ((len : Nat) : Int)), Ri.isV (.int .i64 ((len : Int) - 1)), Ri.isV (.int .i64 ((i : Nat) : Int)), Ri.isV (.pointer (some ⟨g, o + i * 4, none⟩)), Ri.isV (.agg #[.int .i64 m', .int .i64 x', .bool y', .slice B l' d']), (PzC2 (W.heap.size + 3) u z), (PzR2 (W.heap.size + 3) u z), (fun _ _ => True), Ri.isV (.pointer (some ⟨W.heap.size + 2, 3, none⟩)), (fun _ _ => True)]) (by kernel_rfl) (by kernel_rfl) (by kernel_rfl) (⟨HQ.out.trans (Q.refl _).drew, HBS.out, by rw [if_neg (by decide)]; exact HZP.out.up (Q.refl _).drew, by rw [if_neg (by decide)]; exact blk_q HBX.out (Q.refl _).drew⟩) (Ri.phi_mono ?_) (Ri.phi_fix ?_) ?_ ?_
   ·repeat' first | exact trivial | exact fun _ _ _ h _ => h | exact pzC2_mono _ _ _ | exact pzR2_mono _ _ _ | refine ⟨?_, ?_⟩
   ·repeat' first | exact trivial | exact fun _ _ _ _ h => h | exact fun h => absurd h (by decide) | refine ⟨?_, ?_⟩
   ·refine Ri.All.cons ?_ (.cons ?_ (.cons ?_ (.cons ?_ (.cons ?_ (.cons ?_ (.cons ?_ (.cons ?_ (.cons ?_ (.cons ?_ (.cons ?_ (.cons ?_ (.cons ?_ (.cons ?_ (.cons ?_ (.cons ?_ (.cons ?_ (Ri.All.nil)))))))))))))))))
    ·refine Ri.StepY.q (h := fun S9 f9 W9 hS hD hq hf A9 hA hB hO => ?_)
     have e1 := (hB 3).trans (show _ = .pointer (some ⟨W.heap.size + 2, 0, none⟩) by simp [Act.eval])
     exact Ri.wp_value _ (Ri.run_fld (f := _) rfl e1 Try.underlying31 rfl (sz := 0) (by kernel_rfl)) rfl
    ·refine Ri.StepY.q (h := fun S9 f9 W9 hS hD hq hf A9 hA hB hO => ?_)
     have e1 := (hA 28 0).trans (hf 0)
     have hx9 := hq.2.2.2
     rw [(hO 16).1, if_neg (by decide)] at hx9
     exact Ri.wp_value _ (Ri.run_ld1 rfl e1 Try.underlying29 rfl (cell_blkJ hx9 rfl)) rfl
    ·refine Ri.StepY.q (h := fun S9 f9 W9 hS hD hq hf A9 hA hB hO => ?_)
     have e1 := (hB 1).trans (show _ = .pointer (some ⟨W.heap.size, 0, none⟩) by simp [Act.eval])
     exact Ri.wp_value _ (Ri.run_fld (f := _) rfl e1 Try.underlying24 rfl (sz := 0) (by kernel_rfl)) rfl
    ·refine Ri.StepY.q (h := fun S9 f9 W9 hS hD hq hf A9 hA hB hO => ?_)
     have e1 := (hA 30 2).trans (hf 2)
     exact Ri.wp_value _ (Ri.run_ld1 rfl e1 Try.underlying22 rfl ((KA.out W9 hq.1).2.2.2)) rfl
    ·refine Ri.StepY.q (h := fun S9 f9 W9 hS hD hq hf A9 hA hB hO => ?_)
     have e1 := (hB 4).trans (show _ = .int .i64 (j : Nat) by simp [Act.eval])
     exact Ri.wp_value _ (Ri.run_mv rfl e1) rfl
    ·refine Ri.StepY.q (h := fun S9 f9 W9 hS hD hq hf A9 hA hB hO => ?_)
     have e1 := (hB 1).trans (show _ = .pointer (some ⟨W.heap.size, 0, none⟩) by simp [Act.eval])
     exact Ri.wp_value _ (Ri.run_fld (f := _) rfl e1 Try.underlying24 rfl (sz := 0) (by kernel_rfl)) rfl
    ·refine Ri.StepY.q (h := fun S9 f9 W9 hS hD hq hf A9 hA hB hO => ?_)
     have e1 := (hA 33 5).trans (hf 5)
     exact Ri.wp_value _ (Ri.run_ld1 rfl e1 Try.underlying22 rfl ((KA.out W9 hq.1).2.2.2)) rfl
    ·refine Ri.StepY.q (h := fun S9 f9 W9 hS hD hq hf A9 hA hB hO => ?_)
     have e1 := (hA 34 6).trans (hf 6)
     exact Ri.wp_value _ (Ri.run_lenC rfl e1 Try.underlying22) rfl
    ·refine Ri.StepY.q (h := fun S9 f9 W9 hS hD hq hf A9 hA hB hO => ?_)
     have e1 := (hA 35 7).trans (hf 7)
     have e2 : A9.eval (.const (.int .i64 1)) = .int .i64 1 := rfl
     exact Ri.wp_value _ (Ri.run_subC rfl e1 e2 Try.underlying3 (by omega) (by omega)) rfl
    ·refine Ri.StepY.q (h := fun S9 f9 W9 hS hD hq hf A9 hA hB hO => ?_)
     have e1 := (hA 32 4).trans (hf 4)
     have e2 := (hA 36 8).trans (hf 8)
     exact Ri.wp_value _ ((Ri.run_miniC rfl e1 e2).trans (by rw [HI3.out])) rfl
    ·refine Ri.StepY.q (h := fun S9 f9 W9 hS hD hq hf A9 hA hB hO => ?_)
     have e1 := (hA 31 3).trans (hf 3)
     have e2 := (hA 37 9).trans (hf 9)
     exact Ri.wp_value _ (Ri.run_idx rfl e1 e2 Try.underlying22 (sz := 4) (by kernel_rfl) HI2.out) rfl
    ·refine Ri.StepY.q (h := fun S9 f9 W9 hS hD hq hf A9 hA hB hO => ?_)
     have e1 := (hA 38 10).trans (hf 10)
     obtain ⟨b0, b1, b2, b3⟩ := KP.out W9 hq.1
     exact Ri.wp_value _ (Ri.run_ldagg rfl e1 (c4G b0 b1 b2 b3) Try.underlying24 rfl (by kernel_rfl)) rfl
    ·refine Ri.StepY.q (h := fun S9 f9 W9 hS hD hq hf A9 hA hB hO => ?_)
     have e1 := (hA 39 11).trans (hf 11)
     have hz9 := hq.2.2.1
     rw [(hO 14).1, if_neg (by decide)] at hz9
     have hlt9 := hz9.own.lt
     refine Ri.wp_call #[.agg #[.int .i64 m', .int .i64 x', .bool y', .slice B l' d']] rfl (by simp [e1]) Try.func51 (by kernel_rfl) (by kernel_rfl) ((HIP.out W9 (HWQ.out.trans hq.1)).mono ?_)
     rintro e w9 ⟨c, rfl, h1, h2, h3, h4⟩
     exact ⟨_, rfl, h4, W9.heap.size, hq.2.1, fun q hq9 => (hlt9 q hq9).2, c, rfl, h1, h2, h3⟩
    ·refine Ri.StepY.q (h := fun S9 f9 W9 hS hD hq hf A9 hA hB hO => ?_)
     obtain ⟨B1, hB1, hu1, c, hcv, hsk, hcr, hcb⟩ : PzC2 (W.heap.size + 3) u z (f9 12) W9 := hf 12
     cases c with
     | mk X0 X1 X2 A0 l0 d0 qs0 =>
      have e1 := (hA 40 12).trans (hcv.trans (show _ = .agg #[.int .i64 X0, .bool X1, .bool X2, .slice A0 l0 d0] from rfl))
      obtain ⟨ti, hi9, hz9, hsz9, hby9⟩ := info_parts (show (Try.prog.info? 31).map (fun i => (i.zero, i.size, i.bytes)) = some (some (.agg #[.int .i64 0, .bool false, .bool false, .slice none 0 0]), 4, 40) by kernel_rfl)
      refine wp_buildSlice 29 31 1 _ rfl #[.int .i64 X0, .bool X1, .bool X2, .slice A0 l0 d0] ti _ Try.underlying29 hi9 hz9 (by rw [hsz9]; decide) (by rw [hsz9]; decide) ?_ ⟨_, rfl, (Q.refl W9).alloc _, B1, hB1, hu1, _, W9.heap.size, rfl, by simp, fun j u hu => cell_blkJ (heap_alloc_new W9 _) (by simpa [encC] using hu), hsk, hcr.up ((Q.refl _).alloc _), hcb.mono fun b hb => ⟨hb.1, by simp; omega⟩⟩
      rw [hsz9]
      simp only [List.map_toArray, List.map_cons, List.map_nil, e1]
      kernel_rfl
    ·refine Ri.StepY.c (h := fun S9 f9 W9 hS hD hq hf A9 hA hB hO => ?_)
     obtain ⟨B1, hB1, hu1, c, b9, hb9, hl9, hc9, hsk, hcr, hcb⟩ : PzR2 (W.heap.size + 3) u z (f9 13) W9 := hf 13
     have e1 := (hA 29 1).trans (show f9 1 = u from hf 1)
     have e2 := (hA 41 13).trans hb9
     have hz9 := hq.2.2.1
     rw [hS, if_neg (by decide)] at hz9
     exact Ri.wp_appZ El_cel _ _ rfl e1 e2 hz9.own (news := encC c) (len_encC c) hc9 (one_cel c) (by decide) (by omega) hq.2.1 (fun v9 w9 h2 h3 h4 => ⟨hq.app hS (hO 16).1 (by decide) (by omega) (by omega) HZJ.out hsk hcr hB1 hu1 hcb h2 h3 h4, trivial⟩)
    ·refine Ri.StepY.q (h := fun S9 f9 W9 hS hD hq hf A9 hA hB hO => ?_)
     have e1 := (hB 3).trans (show _ = .pointer (some ⟨W.heap.size + 2, 0, none⟩) by simp [Act.eval])
     exact Ri.wp_value _ (Ri.run_fld (f := _) rfl e1 Try.underlying31 rfl (sz := 0) (by kernel_rfl)) rfl
    ·refine Ri.StepY.c (h := fun S9 f9 W9 hS hD hq hf A9 hA hB hO => ?_)
     have e1 := (hA 43 15).trans (hf 15)
     have e2 := hA 42 14
     have hz9 := hq.2.2.1
     rw [hD 14, if_pos rfl] at hz9
     obtain ⟨c9, hz9⟩ := hz9
     obtain ⟨A9, cp9, hv9, -⟩ := own_form hz9.own
     exact Ri.wp_store1 rfl e1 e2 (by kernel_rfl) (by rw [hv9]; rfl) (by rw [hv9]; rfl) (cell_blkJ hq.2.2.2 rfl) (frz_new (j := 3) hq.2.2.2) ⟨undef, rfl, hq.store (hD 14) (by decide) (by omega) (by omega) undef, trivial⟩
   ·intro S9 f9 w8 hS hq8 hf
    obtain ⟨hq28, hB8, hz8, hx8⟩ := hq8.end_ (hS 14 (by simp)) (hS 16 (by simp))
    simp only [Ri.acts, Act.put, List.setIfInBounds_toArray, List.set_cons_zero, List.set_cons_succ, Nat.zero_add, Nat.reduceAdd]
    obtain ⟨v8, hv8⟩ : ∃ v8, f9 14 = v8 := ⟨_, rfl⟩
    rw [hv8] at hz8 hx8
    have HZ8 := hide hz8
    have HX8 := hide hx8
    have HB8 := hide hB8
    have HQ8 := hide hq28
    clear hz8 hx8 hB8 hq28 hq8 hf hS
    go_wp2_with fail
    go_roundw
    case rel =>
     obtain ⟨cs', hz8⟩ := HZ8.out
     exact ⟨j + 1, v8, cs', by omega, by go_num, hz8, HX8.out, HB8.out, HQ8.out⟩
    case measure => simp [intOf] <;> omega
  ·have hd1 : decide ((j : Int) < (m : Int)) = false := by simp; omega
   have hd0 : decide (j < m) = false := by simp; omega
   obtain rfl : j = m := by omega
   obtain ⟨A9, c9, rfl, r1, r2, r3⟩ := hzp.end_ (m := j) (by have := HZL.out; omega) (by omega)
   have HR1 := hide r1
   have HR2 := hide r2
   have HR3 := hide r3
   have u0 : wr.cell? ⟨W.heap.size + 2, 0, none⟩ = some (.int .i64 0) := cell_blkJ hbx rfl
   have u1 : wr.cell? ⟨W.heap.size + 2, 1, none⟩ = some (.bool false) := cell_blkJ hbx rfl
   have u2 : wr.cell? ⟨W.heap.size + 2, 2, none⟩ = some (.bool false) := cell_blkJ hbx rfl
   have u3 : wr.cell? ⟨W.heap.size + 2, 3, none⟩ = some (.slice A9 j c9) := cell_blkJ hbx rfl
   clear hzp hbx r1 r2 r3 hq
   have kb1 := KB.out wr HQ.out
   have v0 : wr.cell? ⟨W.heap.size + 1, 0, none⟩ = some (.int .i64 0) := cell_blkJ kb1 rfl
   have vf0 : wr.frozen? ⟨W.heap.size + 1, 0, none⟩ = false := frz_new (j := 0) kb1
   have v1 : wr.cell? ⟨W.heap.size + 1, 1, none⟩ = some (.bool false) := cell_blkJ kb1 rfl
   have vf1 : wr.frozen? ⟨W.heap.size + 1, 1, none⟩ = false := frz_new (j := 1) kb1
   have v2 : wr.cell? ⟨W.heap.size + 1, 2, none⟩ = some (.bool false) := cell_blkJ kb1 rfl
   have vf2 : wr.frozen? ⟨W.heap.size + 1, 2, none⟩ = false := frz_new (j := 2) kb1
   have v3 : wr.cell? ⟨W.heap.size + 1, 3, none⟩ = some (.slice none 0 0) := cell_blkJ kb1 rfl
   have vf3 : wr.frozen? ⟨W.heap.size + 1, 3, none⟩ = false := frz_new (j := 3) kb1
   clear kb1
   have HS5 := hide (set4c (w := wr) (.int .i64 0) (.bool false) (.bool false) (.slice A9 j c9) v0 v1 v2 v3 _ rfl)
   go_wp2_with fail
   obtain ⟨s0, s1, s2, s3⟩ := HS5.out
   refine bodyPost_ret (v := .agg #[.int .i64 0, .bool false, .bool false, .slice A9 j c9]) (by simp [results, Try.results51, go_sem, s0, s1, s2, s3]) rfl ?_
   exact zr_end (HQ2.out.trans HQ.out) (by omega) (show W.heap.size + 1 < W.heap.size + 3 by omega) HR1.out HR2.out (HR3.out.trans RES.out.symm)
theorem zeroP_6 {w : World} {k n : Int} {f : Bool} {A : Option Addr} {len cap : Nat} {ps : List Lay} (hl : LayR w (.mk k n f A len cap ps)) (hv : VL (.mk k n f A len cap ps)) (ih : ∀ p ∈ ps, ∀ W, Q w W → Calls Try.prog 51 #[p.v] W (fun e w' => ZrP W p.zero e w')) (hk : k = 6) : ∀ W, Q w W → Calls Try.prog 51 #[.agg #[.int .i64 k, .int .i64 n, .bool f, .slice A len cap]] W (fun e w' => ZrP W (zeroC k n (ps.map Lay.zero)) e w') := by
 subst hk
 intro W hqW
 have HSL : Hid (Sl 4 encL w A len cap ps) := by cases hl with | @mk _ _ _ _ _ _ _ hk hn hsl hnil hcap hall => exact hide hsl
 have hpl := HSL.out.len
 have hl12 : len ≤ 12 := by have := hv.len.1; omega
 have HIH := hide ih
 have HV := hide hv
 obtain ⟨w2, hw2⟩ : ∃ w2, (W.alloc (.cells #[.int .i64 6, .int .i64 n, .bool f, .slice A len cap] 24)).alloc (.cells #[.int .i64 0, .bool false, .bool false, .slice none 0 0] 31) = w2 := ⟨_, rfl⟩
 obtain ⟨hq2, hs2, hc2, hd2⟩ := box2 hw2
 have hb0 : W.heap.size < w2.heap.size := by omega
 have hb1 : W.heap.size + 1 < w2.heap.size := by omega
 have kb1 : w2.heap[W.heap.size + 1]? = some (.cells #[.int .i64 0, .bool false, .bool false, .slice none 0 0] 31 (0, 0)) := by
  have h9 := heap_alloc_new (W.alloc (.cells #[.int .i64 6, .int .i64 n, .bool f, .slice A len cap] 24)) (.cells #[.int .i64 0, .bool false, .bool false, .slice none 0 0] 31)
  rw [hw2] at h9
  simpa using h9
 have KA := hide fun X (hX : Q w2 X) => (cs4 hX hb0 hc2 : Cs4 X W.heap.size (.int .i64 6) (.int .i64 n) (.bool f) (.slice A len cap))
 have KB : Hid (∀ X, Q w2 X → X.heap[W.heap.size + 1]? = some (.cells #[.int .i64 0, .bool false, .bool false, .slice none 0 0] 31 (0, 0))) := hide fun X hX => blk_q kb1 hX
 have HW2 := hide hw2
 have HQ2 := hide hq2
 have HWQ := hide (hqW.trans hq2)
 clear hl hv ih hqW hw2 hc2 hd2 hq2 kb1
 have hm1 : len ≤ 1000 := by omega
 obtain ⟨zs, hzs⟩ : ∃ zs, ps.map Lay.zero = zs := ⟨_, rfl⟩
 have RES : Hid (zeroC 6 n (ps.map Lay.zero) = .mk 0 false false none 0 0 zs) := hide (by rw [zeroC_69 (by decide), hzs])
 have HZL : Hid (zs.length = len) := hide (by rw [← hzs, List.length_map, hpl])
 have HIDX : Hid (∀ j, j < len → min j (len - 1) < len ∧ min (j : Int) ((len : Int) - 1) = ((min j (len - 1) : Nat) : Int) ∧ ∀ p, ps[min j (len - 1)]? = some p → zs[j]? = some p.zero) := hide (fun j hj => ⟨by omega, by omega, fun p hp => by
  rw [show min j (len - 1) = j by omega] at hp
  rw [← hzs, List.getElem?_map, hp]
  rfl⟩)
 have HCT := hide (ccount_any 6 n f A len cap)
 rw [if_neg (by decide)] at HCT
 clear hzs hpl
 unfold R1 at HCT
 obtain ⟨w3, hw3⟩ : ∃ w3, w2.alloc (.cells #[.int .i64 0, .bool false, .bool false, .slice none 0 0] 31) = w3 := ⟨_, rfl⟩
 have hq3 : Q w2 w3 := by rw [← hw3]; exact (Q.refl _).alloc _
 have hs3 : w3.heap.size = W.heap.size + 3 := by rw [← hw3]; simp; omega
 have hx3 : w3.heap[W.heap.size + 2]? = some (.cells #[.int .i64 0, .bool false, .bool false, .slice none 0 0] 31 (0, 0)) := by rw [← hw3, ← hs2]; exact heap_alloc_new w2 _
 have HW3 := hide hw3
 have Q23 := hide hq3
 have HX3 := hide hx3
 clear hw3 hq3 hx3
 obtain ⟨k0, k1, k2, k3⟩ := KA.out w2 (Q.refl _)
 go_enter Try.func51, Try.ntmps51
 go_upto_region 1 with fail
 rw [HW2.out]
 have hal := (Q.refl w2).alloc (.cells #[.int .i64 0, .bool false, .bool false, .slice none 0 0] 31)
 obtain ⟨y0, y1, y2, y3⟩ := KA.out _ hal
 clear hal
 go_wp2_with fail
 refine (HCT.out _).mono ?_
 rintro e w4 ⟨rfl, hq4⟩
 rw [HW3.out] at hq4
 clear y0 y1 y2 y3
 have Q24 := hide (Q23.out.trans hq4)
 have hs4 := hq4.size
 have HX4 := hide (blk_q HX3.out hq4)
 clear hq4 k0 k1 k2 k3
 go_wp2_with fail
 go_loopw [25] (fun vi wr => ∃ (j : Nat) (u : Value) (cs : List Cel), j ≤ len ∧ vi = .int .i64 j ∧ Zpd (W.heap.size + 3) zs j u cs wr ∧ wr.heap[W.heap.size + 2]? = some (.cells #[.int .i64 0, .bool false, .bool false, u] 31 (0, 0)) ∧ W.heap.size + 3 ≤ wr.heap.size ∧ Q w2 wr) (fun vi _ => len - (intOf vi).toNat)
 case atStart => exact ⟨0, .slice none 0 0, [], by omega, by go_num, Zpd.start _ zs _, HX4.out, by omega, Q24.out⟩
 case round =>
  obtain ⟨j, u, cs, hj, rfl, hzp, hbx, hbs, hq⟩ := hrel
  have HQ := hide hq
  have HZP := hide hzp
  have HBX := hide hbx
  have HBS := hide hbs
  by_cases hlt9 : j < len
  ·have hd1 : decide ((j : Int) < (len : Int)) = true := by simp; omega
   have hd0 : decide (j < len) = true := by simp; omega
   have hlti : (j : Int) < (len : Int) := by omega
   obtain ⟨hi2, hi3, hzj⟩ := HIDX.out j hlt9
   obtain ⟨i, hi⟩ : ∃ i, min j (len - 1) = i := ⟨_, rfl⟩
   rw [hi] at hi2 hi3 hzj
   obtain ⟨g, o, m', x', y', B, l', d', qs1, e, hbp, hxp, z0, z1, z2, z3⟩ := lay_at (HSL.out.up HWQ.out) hi2
   cases e
   obtain ⟨p, hpe⟩ : ∃ p, Lay.mk m' x' y' B l' d' qs1 = p := ⟨_, rfl⟩
   have hpv : p.v = .agg #[.int .i64 m', .int .i64 x', .bool y', .slice B l' d'] := by rw [← hpe]; rfl
   rw [hpe] at hxp
   have HIP := hide (HIH.out p (List.mem_of_getElem? hxp))
   rw [hpv] at HIP
   obtain ⟨z, hz⟩ : ∃ z, p.zero = z := ⟨_, rfl⟩
   rw [hz] at HIP
   have HZJ : Hid (zs[j]? = some z) := hide (by rw [hzj p hxp, hz])
   have HI2 := hide hi2
   have HI3 := hide hi3
   have KP : Hid (∀ X, Q w2 X → X.cell? ⟨g, o + i * 4, none⟩ = some (.int .i64 m') ∧ X.cell? ⟨g, o + i * 4 + 1, none⟩ = some (.int .i64 x') ∧ X.cell? ⟨g, o + i * 4 + 2, none⟩ = some (.bool y') ∧ X.cell? ⟨g, o + i * 4 + 3, none⟩ = some (.slice B l' d')) := hide fun X hX => ⟨(hX.facts.1 _ _ hbp).trans z0, (hX.facts.1 _ _ hbp).trans z1, (hX.facts.1 _ _ hbp).trans z2, (hX.facts.1 _ _ hbp).trans z3⟩
   clear hi2 hi3 hzj hi hbp hxp hpe hpv hz z0 z1 z2 z3 hzp hbx hbs hq
   go_upto_region 13 with fail
   refine Ri.madeY (C := CZ 14 16 w2 (W.heap.size + 3) (W.heap.size + 2) zs j u cs z) [14, 16] [0, 1, 2, 3, 4, 5, 6, 7, 8, 9, 10, 11, 14, 15, 16] [0, 1, 2, 3, 4, 5, 6, 7, 8, 9, 10, 11, 12, 15, 16] (fun S0 S2 f f2 w1 w2 hk hq9 hq => hq9.q hk hq) (Ri.phi [Ri.isV (.pointer (some ⟨W.heap.size + 2, 3, none⟩)), Ri.isV (u), Ri.isV (.pointer (some ⟨W.heap.size, 3, none⟩)), Ri.isV (.slice (some ⟨g, o, none⟩) len cap), Ri.isV (.int .i64 ((j : Nat) : Int)), Ri.isV (.pointer (some ⟨W.heap.size, 3, none⟩)), Ri.isV (.slice (some ⟨g, o, none⟩) len cap), Ri.isV (.int .i64 ((len : Nat) : Int)), Ri.isV (.int .i64 ((len : Int) - 1)), Ri.isV (.int .i64 ((i : Nat) : Int)), Ri.isV (.pointer (some ⟨g, o + i * 4, none⟩)), Ri.isV (.agg #[.int .i64 m', .int .i64 x', .bool y', .slice B l' d']), (PzC2 (W.heap.size + 3) u z), (PzR2 (W.heap.size + 3) u z), (fun _ _ => True), Ri.isV (.pointer (some ⟨W.heap.size + 2, 3, none⟩)), (fun _ _ => True)]) (by kernel_rfl) (by kernel_rfl) (by kernel_rfl) (⟨HQ.out.trans (Q.refl _).drew, HBS.out, by rw [if_neg (by decide)]; exact HZP.out.up (Q.refl _).drew, by rw [if_neg (by decide)]; exact blk_q HBX.out (Q.refl _).drew⟩) (Ri.phi_mono ?_) (Ri.phi_fix ?_) ?_ ?_
   ·repeat' first | exact trivial | exact fun _ _ _ h _ => h | exact pzC2_mono _ _ _ | exact pzR2_mono _ _ _ | refine ⟨?_, ?_⟩
   ·repeat' first | exact trivial | exact fun _ _ _ _ h => h | exact fun h => absurd h (by decide) | refine ⟨?_, ?_⟩
   ·refine Ri.All.cons ?_ (.cons ?_ (.cons ?_ (.cons ?_ (.cons ?_ (.cons ?_ (.cons ?_ (.cons ?_ (.cons ?_ (.cons ?_ (.cons ?_ (.cons ?_ (.cons ?_ (.cons ?_ (.cons ?_ (.cons ?_ (.cons ?_ (Ri.All.nil)))))))))))))))))
    ·refine Ri.StepY.q (h := fun S9 f9 W9 hS hD hq hf A9 hA hB hO => ?_)
     have e1 := (hB 3).trans (show _ = .pointer (some ⟨W.heap.size + 2, 0, none⟩) by simp [Act.eval])
     exact Ri.wp_value _ (Ri.run_fld (f := _) rfl e1 Try.underlying31 rfl (sz := 0) (by kernel_rfl)) rfl
    ·refine Ri.StepY.q (h := fun S9 f9 W9 hS hD hq hf A9 hA hB hO => ?_)
     have e1 := (hA 28 0).trans (hf 0)
     have hx9 := hq.2.2.2
     rw [(hO 16).1, if_neg (by decide)] at hx9
     exact Ri.wp_value _ (Ri.run_ld1 rfl e1 Try.underlying29 rfl (cell_blkJ hx9 rfl)) rfl
    ·refine Ri.StepY.q (h := fun S9 f9 W9 hS hD hq hf A9 hA hB hO => ?_)
     have e1 := (hB 1).trans (show _ = .pointer (some ⟨W.heap.size, 0, none⟩) by simp [Act.eval])
     exact Ri.wp_value _ (Ri.run_fld (f := _) rfl e1 Try.underlying24 rfl (sz := 0) (by kernel_rfl)) rfl
    ·refine Ri.StepY.q (h := fun S9 f9 W9 hS hD hq hf A9 hA hB hO => ?_)
     have e1 := (hA 30 2).trans (hf 2)
     exact Ri.wp_value _ (Ri.run_ld1 rfl e1 Try.underlying22 rfl ((KA.out W9 hq.1).2.2.2)) rfl
    ·refine Ri.StepY.q (h := fun S9 f9 W9 hS hD hq hf A9 hA hB hO => ?_)
     have e1 := (hB 4).trans (show _ = .int .i64 (j : Nat) by simp [Act.eval])
     exact Ri.wp_value _ (Ri.run_mv rfl e1) rfl
    ·refine Ri.StepY.q (h := fun S9 f9 W9 hS hD hq hf A9 hA hB hO => ?_)
     have e1 := (hB 1).trans (show _ = .pointer (some ⟨W.heap.size, 0, none⟩) by simp [Act.eval])
     exact Ri.wp_value _ (Ri.run_fld (f := _) rfl e1 Try.underlying24 rfl (sz := 0) (by kernel_rfl)) rfl
    ·refine Ri.StepY.q (h := fun S9 f9 W9 hS hD hq hf A9 hA hB hO => ?_)
     have e1 := (hA 33 5).trans (hf 5)
     exact Ri.wp_value _ (Ri.run_ld1 rfl e1 Try.underlying22 rfl ((KA.out W9 hq.1).2.2.2)) rfl
    ·refine Ri.StepY.q (h := fun S9 f9 W9 hS hD hq hf A9 hA hB hO => ?_)
     have e1 := (hA 34 6).trans (hf 6)
     exact Ri.wp_value _ (Ri.run_lenC rfl e1 Try.underlying22) rfl
    ·refine Ri.StepY.q (h := fun S9 f9 W9 hS hD hq hf A9 hA hB hO => ?_)
     have e1 := (hA 35 7).trans (hf 7)
     have e2 : A9.eval (.const (.int .i64 1)) = .int .i64 1 := rfl
     exact Ri.wp_value _ (Ri.run_subC rfl e1 e2 Try.underlying3 (by omega) (by omega)) rfl
    ·refine Ri.StepY.q (h := fun S9 f9 W9 hS hD hq hf A9 hA hB hO => ?_)
     have e1 := (hA 32 4).trans (hf 4)
     have e2 := (hA 36 8).trans (hf 8)
     exact Ri.wp_value _ ((Ri.run_miniC rfl e1 e2).trans (by rw [HI3.out])) rfl
    ·refine Ri.StepY.q (h := fun S9 f9 W9 hS hD hq hf A9 hA hB hO => ?_)
     have e1 := (hA 31 3).trans (hf 3)
     have e2 := (hA 37 9).trans (hf 9)
     exact Ri.wp_value _ (Ri.run_idx rfl e1 e2 Try.underlying22 (sz := 4) (by kernel_rfl) HI2.out) rfl
    ·refine Ri.StepY.q (h := fun S9 f9 W9 hS hD hq hf A9 hA hB hO => ?_)
     have e1 := (hA 38 10).trans (hf 10)
     obtain ⟨b0, b1, b2, b3⟩ := KP.out W9 hq.1
     exact Ri.wp_value _ (Ri.run_ldagg rfl e1 (c4G b0 b1 b2 b3) Try.underlying24 rfl (by kernel_rfl)) rfl
    ·refine Ri.StepY.q (h := fun S9 f9 W9 hS hD hq hf A9 hA hB hO => ?_)
     have e1 := (hA 39 11).trans (hf 11)
     have hz9 := hq.2.2.1
     rw [(hO 14).1, if_neg (by decide)] at hz9
     have hlt9 := hz9.own.lt
     refine Ri.wp_call #[.agg #[.int .i64 m', .int .i64 x', .bool y', .slice B l' d']] rfl (by simp [e1]) Try.func51 (by kernel_rfl) (by kernel_rfl) ((HIP.out W9 (HWQ.out.trans hq.1)).mono ?_)
     rintro e w9 ⟨c, rfl, h1, h2, h3, h4⟩
     exact ⟨_, rfl, h4, W9.heap.size, hq.2.1, fun q hq9 => (hlt9 q hq9).2, c, rfl, h1, h2, h3⟩
    ·refine Ri.StepY.q (h := fun S9 f9 W9 hS hD hq hf A9 hA hB hO => ?_)
     obtain ⟨B1, hB1, hu1, c, hcv, hsk, hcr, hcb⟩ : PzC2 (W.heap.size + 3) u z (f9 12) W9 := hf 12
     cases c with
     | mk X0 X1 X2 A0 l0 d0 qs0 =>
      have e1 := (hA 40 12).trans (hcv.trans (show _ = .agg #[.int .i64 X0, .bool X1, .bool X2, .slice A0 l0 d0] from rfl))
      obtain ⟨ti, hi9, hz9, hsz9, hby9⟩ := info_parts (show (Try.prog.info? 31).map (fun i => (i.zero, i.size, i.bytes)) = some (some (.agg #[.int .i64 0, .bool false, .bool false, .slice none 0 0]), 4, 40) by kernel_rfl)
      refine wp_buildSlice 29 31 1 _ rfl #[.int .i64 X0, .bool X1, .bool X2, .slice A0 l0 d0] ti _ Try.underlying29 hi9 hz9 (by rw [hsz9]; decide) (by rw [hsz9]; decide) ?_ ⟨_, rfl, (Q.refl W9).alloc _, B1, hB1, hu1, _, W9.heap.size, rfl, by simp, fun j u hu => cell_blkJ (heap_alloc_new W9 _) (by simpa [encC] using hu), hsk, hcr.up ((Q.refl _).alloc _), hcb.mono fun b hb => ⟨hb.1, by simp; omega⟩⟩
      rw [hsz9]
      simp only [List.map_toArray, List.map_cons, List.map_nil, e1]
      kernel_rfl
    ·refine Ri.StepY.c (h := fun S9 f9 W9 hS hD hq hf A9 hA hB hO => ?_)
     obtain ⟨B1, hB1, hu1, c, b9, hb9, hl9, hc9, hsk, hcr, hcb⟩ : PzR2 (W.heap.size + 3) u z (f9 13) W9 := hf 13
     have e1 := (hA 29 1).trans (show f9 1 = u from hf 1)
     have e2 := (hA 41 13).trans hb9
     have hz9 := hq.2.2.1
     rw [hS, if_neg (by decide)] at hz9
     exact Ri.wp_appZ El_cel _ _ rfl e1 e2 hz9.own (news := encC c) (len_encC c) hc9 (one_cel c) (by decide) (by omega) hq.2.1 (fun v9 w9 h2 h3 h4 => ⟨hq.app hS (hO 16).1 (by decide) (by omega) (by omega) HZJ.out hsk hcr hB1 hu1 hcb h2 h3 h4, trivial⟩)
    ·refine Ri.StepY.q (h := fun S9 f9 W9 hS hD hq hf A9 hA hB hO => ?_)
     have e1 := (hB 3).trans (show _ = .pointer (some ⟨W.heap.size + 2, 0, none⟩) by simp [Act.eval])
     exact Ri.wp_value _ (Ri.run_fld (f := _) rfl e1 Try.underlying31 rfl (sz := 0) (by kernel_rfl)) rfl
    ·refine Ri.StepY.c (h := fun S9 f9 W9 hS hD hq hf A9 hA hB hO => ?_)
     have e1 := (hA 43 15).trans (hf 15)
     have e2 := hA 42 14
     have hz9 := hq.2.2.1
     rw [hD 14, if_pos rfl] at hz9
     obtain ⟨c9, hz9⟩ := hz9
     obtain ⟨A9, cp9, hv9, -⟩ := own_form hz9.own
     exact Ri.wp_store1 rfl e1 e2 (by kernel_rfl) (by rw [hv9]; rfl) (by rw [hv9]; rfl) (cell_blkJ hq.2.2.2 rfl) (frz_new (j := 3) hq.2.2.2) ⟨undef, rfl, hq.store (hD 14) (by decide) (by omega) (by omega) undef, trivial⟩
   ·intro S9 f9 w8 hS hq8 hf
    obtain ⟨hq28, hB8, hz8, hx8⟩ := hq8.end_ (hS 14 (by simp)) (hS 16 (by simp))
    simp only [Ri.acts, Act.put, List.setIfInBounds_toArray, List.set_cons_zero, List.set_cons_succ, Nat.zero_add, Nat.reduceAdd]
    obtain ⟨v8, hv8⟩ : ∃ v8, f9 14 = v8 := ⟨_, rfl⟩
    rw [hv8] at hz8 hx8
    have HZ8 := hide hz8
    have HX8 := hide hx8
    have HB8 := hide hB8
    have HQ8 := hide hq28
    clear hz8 hx8 hB8 hq28 hq8 hf hS
    go_wp2_with fail
    go_roundw
    case rel =>
     obtain ⟨cs', hz8⟩ := HZ8.out
     exact ⟨j + 1, v8, cs', by omega, by go_num, hz8, HX8.out, HB8.out, HQ8.out⟩
    case measure => simp [intOf] <;> omega
  ·have hd1 : decide ((j : Int) < (len : Int)) = false := by simp; omega
   have hd0 : decide (j < len) = false := by simp; omega
   obtain rfl : j = len := by omega
   obtain ⟨A9, c9, rfl, r1, r2, r3⟩ := hzp.end_ (m := j) (by have := HZL.out; omega) (by omega)
   have HR1 := hide r1
   have HR2 := hide r2
   have HR3 := hide r3
   have u0 : wr.cell? ⟨W.heap.size + 2, 0, none⟩ = some (.int .i64 0) := cell_blkJ hbx rfl
   have u1 : wr.cell? ⟨W.heap.size + 2, 1, none⟩ = some (.bool false) := cell_blkJ hbx rfl
   have u2 : wr.cell? ⟨W.heap.size + 2, 2, none⟩ = some (.bool false) := cell_blkJ hbx rfl
   have u3 : wr.cell? ⟨W.heap.size + 2, 3, none⟩ = some (.slice A9 j c9) := cell_blkJ hbx rfl
   clear hzp hbx r1 r2 r3 hq
   have kb1 := KB.out wr HQ.out
   have v0 : wr.cell? ⟨W.heap.size + 1, 0, none⟩ = some (.int .i64 0) := cell_blkJ kb1 rfl
   have vf0 : wr.frozen? ⟨W.heap.size + 1, 0, none⟩ = false := frz_new (j := 0) kb1
   have v1 : wr.cell? ⟨W.heap.size + 1, 1, none⟩ = some (.bool false) := cell_blkJ kb1 rfl
   have vf1 : wr.frozen? ⟨W.heap.size + 1, 1, none⟩ = false := frz_new (j := 1) kb1
   have v2 : wr.cell? ⟨W.heap.size + 1, 2, none⟩ = some (.bool false) := cell_blkJ kb1 rfl
   have vf2 : wr.frozen? ⟨W.heap.size + 1, 2, none⟩ = false := frz_new (j := 2) kb1
   have v3 : wr.cell? ⟨W.heap.size + 1, 3, none⟩ = some (.slice none 0 0) := cell_blkJ kb1 rfl
   have vf3 : wr.frozen? ⟨W.heap.size + 1, 3, none⟩ = false := frz_new (j := 3) kb1
   clear kb1
   have HS5 := hide (set4c (w := wr) (.int .i64 0) (.bool false) (.bool false) (.slice A9 j c9) v0 v1 v2 v3 _ rfl)
   go_wp2_with fail
   obtain ⟨s0, s1, s2, s3⟩ := HS5.out
   refine bodyPost_ret (v := .agg #[.int .i64 0, .bool false, .bool false, .slice A9 j c9]) (by simp [results, Try.results51, go_sem, s0, s1, s2, s3]) rfl ?_
   exact zr_end (HQ2.out.trans HQ.out) (by omega) (show W.heap.size + 1 < W.heap.size + 3 by omega) HR1.out HR2.out (HR3.out.trans RES.out.symm)
theorem zeroP_9 {w : World} {k n : Int} {f : Bool} {A : Option Addr} {len cap : Nat} {ps : List Lay} (hl : LayR w (.mk k n f A len cap ps)) (hv : VL (.mk k n f A len cap ps)) (ih : ∀ p ∈ ps, ∀ W, Q w W → Calls Try.prog 51 #[p.v] W (fun e w' => ZrP W p.zero e w')) (hk : k = 9) : ∀ W, Q w W → Calls Try.prog 51 #[.agg #[.int .i64 k, .int .i64 n, .bool f, .slice A len cap]] W (fun e w' => ZrP W (zeroC k n (ps.map Lay.zero)) e w') := by
 subst hk
 intro W hqW
 have HSL : Hid (Sl 4 encL w A len cap ps) := by cases hl with | @mk _ _ _ _ _ _ _ hk hn hsl hnil hcap hall => exact hide hsl
 have hpl := HSL.out.len
 have hl12 : len ≤ 12 := by have := hv.len.1; omega
 have HIH := hide ih
 have HV := hide hv
 obtain ⟨w2, hw2⟩ : ∃ w2, (W.alloc (.cells #[.int .i64 9, .int .i64 n, .bool f, .slice A len cap] 24)).alloc (.cells #[.int .i64 0, .bool false, .bool false, .slice none 0 0] 31) = w2 := ⟨_, rfl⟩
 obtain ⟨hq2, hs2, hc2, hd2⟩ := box2 hw2
 have hb0 : W.heap.size < w2.heap.size := by omega
 have hb1 : W.heap.size + 1 < w2.heap.size := by omega
 have kb1 : w2.heap[W.heap.size + 1]? = some (.cells #[.int .i64 0, .bool false, .bool false, .slice none 0 0] 31 (0, 0)) := by
  have h9 := heap_alloc_new (W.alloc (.cells #[.int .i64 9, .int .i64 n, .bool f, .slice A len cap] 24)) (.cells #[.int .i64 0, .bool false, .bool false, .slice none 0 0] 31)
  rw [hw2] at h9
  simpa using h9
 have KA := hide fun X (hX : Q w2 X) => (cs4 hX hb0 hc2 : Cs4 X W.heap.size (.int .i64 9) (.int .i64 n) (.bool f) (.slice A len cap))
 have KB : Hid (∀ X, Q w2 X → X.heap[W.heap.size + 1]? = some (.cells #[.int .i64 0, .bool false, .bool false, .slice none 0 0] 31 (0, 0))) := hide fun X hX => blk_q kb1 hX
 have HW2 := hide hw2
 have HQ2 := hide hq2
 have HWQ := hide (hqW.trans hq2)
 clear hl hv ih hqW hw2 hc2 hd2 hq2 kb1
 have hm1 : len ≤ 1000 := by omega
 obtain ⟨zs, hzs⟩ : ∃ zs, ps.map Lay.zero = zs := ⟨_, rfl⟩
 have RES : Hid (zeroC 9 n (ps.map Lay.zero) = .mk 0 false false none 0 0 zs) := hide (by rw [zeroC_69 (by decide), hzs])
 have HZL : Hid (zs.length = len) := hide (by rw [← hzs, List.length_map, hpl])
 have HIDX : Hid (∀ j, j < len → min j (len - 1) < len ∧ min (j : Int) ((len : Int) - 1) = ((min j (len - 1) : Nat) : Int) ∧ ∀ p, ps[min j (len - 1)]? = some p → zs[j]? = some p.zero) := hide (fun j hj => ⟨by omega, by omega, fun p hp => by
  rw [show min j (len - 1) = j by omega] at hp
  rw [← hzs, List.getElem?_map, hp]
  rfl⟩)
 have HCT := hide (ccount_any 9 n f A len cap)
 rw [if_neg (by decide)] at HCT
 clear hzs hpl
 unfold R1 at HCT
 obtain ⟨w3, hw3⟩ : ∃ w3, w2.alloc (.cells #[.int .i64 0, .bool false, .bool false, .slice none 0 0] 31) = w3 := ⟨_, rfl⟩
 have hq3 : Q w2 w3 := by rw [← hw3]; exact (Q.refl _).alloc _
 have hs3 : w3.heap.size = W.heap.size + 3 := by rw [← hw3]; simp; omega
 have hx3 : w3.heap[W.heap.size + 2]? = some (.cells #[.int .i64 0, .bool false, .bool false, .slice none 0 0] 31 (0, 0)) := by rw [← hw3, ← hs2]; exact heap_alloc_new w2 _
 have HW3 := hide hw3
 have Q23 := hide hq3
 have HX3 := hide hx3
 clear hw3 hq3 hx3
 obtain ⟨k0, k1, k2, k3⟩ := KA.out w2 (Q.refl _)
 go_enter Try.func51, Try.ntmps51
 go_upto_region 1 with fail
 rw [HW2.out]
 have hal := (Q.refl w2).alloc (.cells #[.int .i64 0, .bool false, .bool false, .slice none 0 0] 31)
 obtain ⟨y0, y1, y2, y3⟩ := KA.out _ hal
 clear hal
 go_wp2_with fail
 refine (HCT.out _).mono ?_
 rintro e w4 ⟨rfl, hq4⟩
 rw [HW3.out] at hq4
 clear y0 y1 y2 y3
 have Q24 := hide (Q23.out.trans hq4)
 have hs4 := hq4.size
 have HX4 := hide (blk_q HX3.out hq4)
 clear hq4 k0 k1 k2 k3
 go_wp2_with fail
 go_loopw [25] (fun vi wr => ∃ (j : Nat) (u : Value) (cs : List Cel), j ≤ len ∧ vi = .int .i64 j ∧ Zpd (W.heap.size + 3) zs j u cs wr ∧ wr.heap[W.heap.size + 2]? = some (.cells #[.int .i64 0, .bool false, .bool false, u] 31 (0, 0)) ∧ W.heap.size + 3 ≤ wr.heap.size ∧ Q w2 wr) (fun vi _ => len - (intOf vi).toNat)
 case atStart => exact ⟨0, .slice none 0 0, [], by omega, by go_num, Zpd.start _ zs _, HX4.out, by omega, Q24.out⟩
 case round =>
  obtain ⟨j, u, cs, hj, rfl, hzp, hbx, hbs, hq⟩ := hrel
  have HQ := hide hq
  have HZP := hide hzp
  have HBX := hide hbx
  have HBS := hide hbs
  by_cases hlt9 : j < len
  ·have hd1 : decide ((j : Int) < (len : Int)) = true := by simp; omega
   have hd0 : decide (j < len) = true := by simp; omega
   have hlti : (j : Int) < (len : Int) := by omega
   obtain ⟨hi2, hi3, hzj⟩ := HIDX.out j hlt9
   obtain ⟨i, hi⟩ : ∃ i, min j (len - 1) = i := ⟨_, rfl⟩
   rw [hi] at hi2 hi3 hzj
   obtain ⟨g, o, m', x', y', B, l', d', qs1, e, hbp, hxp, z0, z1, z2, z3⟩ := lay_at (HSL.out.up HWQ.out) hi2
   cases e
   obtain ⟨p, hpe⟩ : ∃ p, Lay.mk m' x' y' B l' d' qs1 = p := ⟨_, rfl⟩
   have hpv : p.v = .agg #[.int .i64 m', .int .i64 x', .bool y', .slice B l' d'] := by rw [← hpe]; rfl
   rw [hpe] at hxp
   have HIP := hide (HIH.out p (List.mem_of_getElem? hxp))
   rw [hpv] at HIP
   obtain ⟨z, hz⟩ : ∃ z, p.zero = z := ⟨_, rfl⟩
   rw [hz] at HIP
   have HZJ : Hid (zs[j]? = some z) := hide (by rw [hzj p hxp, hz])
   have HI2 := hide hi2
   have HI3 := hide hi3
   have KP : Hid (∀ X, Q w2 X → X.cell? ⟨g, o + i * 4, none⟩ = some (.int .i64 m') ∧ X.cell? ⟨g, o + i * 4 + 1, none⟩ = some (.int .i64 x') ∧ X.cell? ⟨g, o + i * 4 + 2, none⟩ = some (.bool y') ∧ X.cell? ⟨g, o + i * 4 + 3, none⟩ = some (.slice B l' d')) := hide fun X hX => ⟨(hX.facts.1 _ _ hbp).trans z0, (hX.facts.1 _ _ hbp).trans z1, (hX.facts.1 _ _ hbp).trans z2, (hX.facts.1 _ _ hbp).trans z3⟩
   clear hi2 hi3 hzj hi hbp hxp hpe hpv hz z0 z1 z2 z3 hzp hbx hbs hq
   go_upto_region 13 with fail
   refine Ri.madeY (C := CZ 14 16 w2 (W.heap.size + 3) (W.heap.size + 2) zs j u cs z) [14, 16] [0, 1, 2, 3, 4, 5, 6, 7, 8, 9, 10, 11, 14, 15, 16] [0, 1, 2, 3, 4, 5, 6, 7, 8, 9, 10, 11, 12, 15, 16] (fun S0 S2 f f2 w1 w2 hk hq9 hq => hq9.q hk hq) (Ri.phi [Ri.isV (.pointer (some ⟨W.heap.size + 2, 3, none⟩)), Ri.isV (u), Ri.isV (.pointer (some ⟨W.heap.size, 3, none⟩)), Ri.isV (.slice (some ⟨g, o, none⟩) len cap), Ri.isV (.int .i64 ((j : Nat) : Int)), Ri.isV (.pointer (some ⟨W.heap.size, 3, none⟩)), Ri.isV (.slice (some ⟨g, o, none⟩) len cap), Ri.isV (.int .i64 ((len : Nat) : Int)), Ri.isV (.int .i64 ((len : Int) - 1)), Ri.isV (.int .i64 ((i : Nat) : Int)), Ri.isV (.pointer (some ⟨g, o + i * 4, none⟩)), Ri.isV (.agg #[.int .i64 m', .int .i64 x', .bool y', .slice B l' d']), (PzC2 (W.heap.size + 3) u z), (PzR2 (W.heap.size + 3) u z), (fun _ _ => True), Ri.isV (.pointer (some ⟨W.heap.size + 2, 3, none⟩)), (fun _ _ => True)]) (by kernel_rfl) (by kernel_rfl) (by kernel_rfl) (⟨HQ.out.trans (Q.refl _).drew, HBS.out, by rw [if_neg (by decide)]; exact HZP.out.up (Q.refl _).drew, by rw [if_neg (by decide)]; exact blk_q HBX.out (Q.refl _).drew⟩) (Ri.phi_mono ?_) (Ri.phi_fix ?_) ?_ ?_
   ·repeat' first | exact trivial | exact fun _ _ _ h _ => h | exact pzC2_mono _ _ _ | exact pzR2_mono _ _ _ | refine ⟨?_, ?_⟩
   ·repeat' first | exact trivial | exact fun _ _ _ _ h => h | exact fun h => absurd h (by decide) | refine ⟨?_, ?_⟩
   ·refine Ri.All.cons ?_ (.cons ?_ (.cons ?_ (.cons ?_ (.cons ?_ (.cons ?_ (.cons ?_ (.cons ?_ (.cons ?_ (.cons ?_ (.cons ?_ (.cons ?_ (.cons ?_ (.cons ?_ (.cons ?_ (.cons ?_ (.cons ?_ (Ri.All.nil)))))))))))))))))
    ·refine Ri.StepY.q (h := fun S9 f9 W9 hS hD hq hf A9 hA hB hO => ?_)
     have e1 := (hB 3).trans (show _ = .pointer (some ⟨W.heap.size + 2, 0, none⟩) by simp [Act.eval])
     exact Ri.wp_value _ (Ri.run_fld (f := _) rfl e1 Try.underlying31 rfl (sz := 0) (by kernel_rfl)) rfl
    ·refine Ri.StepY.q (h := fun S9 f9 W9 hS hD hq hf A9 hA hB hO => ?_)
     have e1 := (hA 28 0).trans (hf 0)
     have hx9 := hq.2.2.2
     rw [(hO 16).1, if_neg (by decide)] at hx9
     exact Ri.wp_value _ (Ri.run_ld1 rfl e1 Try.underlying29 rfl (cell_blkJ hx9 rfl)) rfl
    ·refine Ri.StepY.q (h := fun S9 f9 W9 hS hD hq hf A9 hA hB hO => ?_)
     have e1 := (hB 1).trans (show _ = .pointer (some ⟨W.heap.size, 0, none⟩) by simp [Act.eval])
     exact Ri.wp_value _ (Ri.run_fld (f := _) rfl e1 Try.underlying24 rfl (sz := 0) (by kernel_rfl)) rfl
    ·refine Ri.StepY.q (h := fun S9 f9 W9 hS hD hq hf A9 hA hB hO => ?_)
     have e1 := (hA 30 2).trans (hf 2)
     exact Ri.wp_value _ (Ri.run_ld1 rfl e1 Try.underlying22 rfl ((KA.out W9 hq.1).2.2.2)) rfl
    ·refine Ri.StepY.q (h := fun S9 f9 W9 hS hD hq hf A9 hA hB hO => ?_)
     have e1 := (hB 4).trans (show _ = .int .i64 (j : Nat) by simp [Act.eval])
     exact Ri.wp_value _ (Ri.run_mv rfl e1) rfl
    ·refine Ri.StepY.q (h := fun S9 f9 W9 hS hD hq hf A9 hA hB hO => ?_)
     have e1 := (hB 1).trans (show _ = .pointer (some ⟨W.heap.size, 0, none⟩) by simp [Act.eval])
     exact Ri.wp_value _ (Ri.run_fld (f := _) rfl e1 Try.underlying24 rfl (sz := 0) (by kernel_rfl)) rfl
    ·refine Ri.StepY.q (h := fun S9 f9 W9 hS hD hq hf A9 hA hB hO => ?_)
     have e1 := (hA 33 5).trans (hf 5)
     exact Ri.wp_value _ (Ri.run_ld1 rfl e1 Try.underlying22 rfl ((KA.out W9 hq.1).2.2.2)) rfl
    ·refine Ri.StepY.q (h := fun S9 f9 W9 hS hD hq hf A9 hA hB hO => ?_)
     have e1 := (hA 34 6).trans (hf 6)
     exact Ri.wp_value _ (Ri.run_lenC rfl e1 Try.underlying22) rfl
    ·refine Ri.StepY.q (h := fun S9 f9 W9 hS hD hq hf A9 hA hB hO => ?_)
     have e1 := (hA 35 7).trans (hf 7)
     have e2 : A9.eval (.const (.int .i64 1)) = .int .i64 1 := rfl
     exact Ri.wp_value _ (Ri.run_subC rfl e1 e2 Try.underlying3 (by omega) (by omega)) rfl
    ·refine Ri.StepY.q (h := fun S9 f9 W9 hS hD hq hf A9 hA hB hO => ?_)
     have e1 := (hA 32 4).trans (hf 4)
     have e2 := (hA 36 8).trans (hf 8)
     exact Ri.wp_value _ ((Ri.run_miniC rfl e1 e2).trans (by rw [HI3.out])) rfl
    ·refine Ri.StepY.q (h := fun S9 f9 W9 hS hD hq hf A9 hA hB hO => ?_)
     have e1 := (hA 31 3).trans (hf 3)
     have e2 := (hA 37 9).trans (hf 9)
     exact Ri.wp_value _ (Ri.run_idx rfl e1 e2 Try.underlying22 (sz := 4) (by kernel_rfl) HI2.out) rfl
    ·refine Ri.StepY.q (h := fun S9 f9 W9 hS hD hq hf A9 hA hB hO => ?_)
     have e1 := (hA 38 10).trans (hf 10)
     obtain ⟨b0, b1, b2, b3⟩ := KP.out W9 hq.1
     exact Ri.wp_value _ (Ri.run_ldagg rfl e1 (c4G b0 b1 b2 b3) Try.underlying24 rfl (by kernel_rfl)) rfl
    ·refine Ri.StepY.q (h := fun S9 f9 W9 hS hD hq hf A9 hA hB hO => ?_)
     have e1 := (hA 39 11).trans (hf 11)
     have hz9 := hq.2.2.1
     rw [(hO 14).1, if_neg (by decide)] at hz9
     have hlt9 := hz9.own.lt
     refine Ri.wp_call #[.agg #[.int .i64 m', .int .i64 x', .bool y', .slice B l' d']] rfl (by simp [e1]) Try.func51 (by kernel_rfl) (by kernel_rfl) ((HIP.out W9 (HWQ.out.trans hq.1)).mono ?_)
     rintro e w9 ⟨c, rfl, h1, h2, h3, h4⟩
     exact ⟨_, rfl, h4, W9.heap.size, hq.2.1, fun q hq9 => (hlt9 q hq9).2, c, rfl, h1, h2, h3⟩
    ·refine Ri.StepY.q (h := fun S9 f9 W9 hS hD hq hf A9 hA hB hO => ?_)
     obtain ⟨B1, hB1, hu1, c, hcv, hsk, hcr, hcb⟩ : PzC2 (W.heap.size + 3) u z (f9 12) W9 := hf 12
     cases c with
     | mk X0 X1 X2 A0 l0 d0 qs0 =>
      have e1 := (hA 40 12).trans (hcv.trans (show _ = .agg #[.int .i64 X0, .bool X1, .bool X2, .slice A0 l0 d0] from rfl))
      obtain ⟨ti, hi9, hz9, hsz9, hby9⟩ := info_parts (show (Try.prog.info? 31).map (fun i => (i.zero, i.size, i.bytes)) = some (some (.agg #[.int .i64 0, .bool false, .bool false, .slice none 0 0]), 4, 40) by kernel_rfl)
      refine wp_buildSlice 29 31 1 _ rfl #[.int .i64 X0, .bool X1, .bool X2, .slice A0 l0 d0] ti _ Try.underlying29 hi9 hz9 (by rw [hsz9]; decide) (by rw [hsz9]; decide) ?_ ⟨_, rfl, (Q.refl W9).alloc _, B1, hB1, hu1, _, W9.heap.size, rfl, by simp, fun j u hu => cell_blkJ (heap_alloc_new W9 _) (by simpa [encC] using hu), hsk, hcr.up ((Q.refl _).alloc _), hcb.mono fun b hb => ⟨hb.1, by simp; omega⟩⟩
      rw [hsz9]
      simp only [List.map_toArray, List.map_cons, List.map_nil, e1]
      kernel_rfl
    ·refine Ri.StepY.c (h := fun S9 f9 W9 hS hD hq hf A9 hA hB hO => ?_)
     obtain ⟨B1, hB1, hu1, c, b9, hb9, hl9, hc9, hsk, hcr, hcb⟩ : PzR2 (W.heap.size + 3) u z (f9 13) W9 := hf 13
     have e1 := (hA 29 1).trans (show f9 1 = u from hf 1)
     have e2 := (hA 41 13).trans hb9
     have hz9 := hq.2.2.1
     rw [hS, if_neg (by decide)] at hz9
     exact Ri.wp_appZ El_cel _ _ rfl e1 e2 hz9.own (news := encC c) (len_encC c) hc9 (one_cel c) (by decide) (by omega) hq.2.1 (fun v9 w9 h2 h3 h4 => ⟨hq.app hS (hO 16).1 (by decide) (by omega) (by omega) HZJ.out hsk hcr hB1 hu1 hcb h2 h3 h4, trivial⟩)
    ·refine Ri.StepY.q (h := fun S9 f9 W9 hS hD hq hf A9 hA hB hO => ?_)
     have e1 := (hB 3).trans (show _ = .pointer (some ⟨W.heap.size + 2, 0, none⟩) by simp [Act.eval])
     exact Ri.wp_value _ (Ri.run_fld (f := _) rfl e1 Try.underlying31 rfl (sz := 0) (by kernel_rfl)) rfl
    ·refine Ri.StepY.c (h := fun S9 f9 W9 hS hD hq hf A9 hA hB hO => ?_)
     have e1 := (hA 43 15).trans (hf 15)
     have e2 := hA 42 14
     have hz9 := hq.2.2.1
     rw [hD 14, if_pos rfl] at hz9
     obtain ⟨c9, hz9⟩ := hz9
     obtain ⟨A9, cp9, hv9, -⟩ := own_form hz9.own
     exact Ri.wp_store1 rfl e1 e2 (by kernel_rfl) (by rw [hv9]; rfl) (by rw [hv9]; rfl) (cell_blkJ hq.2.2.2 rfl) (frz_new (j := 3) hq.2.2.2) ⟨undef, rfl, hq.store (hD 14) (by decide) (by omega) (by omega) undef, trivial⟩
   ·intro S9 f9 w8 hS hq8 hf
    obtain ⟨hq28, hB8, hz8, hx8⟩ := hq8.end_ (hS 14 (by simp)) (hS 16 (by simp))
    simp only [Ri.acts, Act.put, List.setIfInBounds_toArray, List.set_cons_zero, List.set_cons_succ, Nat.zero_add, Nat.reduceAdd]
    obtain ⟨v8, hv8⟩ : ∃ v8, f9 14 = v8 := ⟨_, rfl⟩
    rw [hv8] at hz8 hx8
    have HZ8 := hide hz8
    have HX8 := hide hx8
    have HB8 := hide hB8
    have HQ8 := hide hq28
    clear hz8 hx8 hB8 hq28 hq8 hf hS
    go_wp2_with fail
    go_roundw
    case rel =>
     obtain ⟨cs', hz8⟩ := HZ8.out
     exact ⟨j + 1, v8, cs', by omega, by go_num, hz8, HX8.out, HB8.out, HQ8.out⟩
    case measure => simp [intOf] <;> omega
  ·have hd1 : decide ((j : Int) < (len : Int)) = false := by simp; omega
   have hd0 : decide (j < len) = false := by simp; omega
   obtain rfl : j = len := by omega
   obtain ⟨A9, c9, rfl, r1, r2, r3⟩ := hzp.end_ (m := j) (by have := HZL.out; omega) (by omega)
   have HR1 := hide r1
   have HR2 := hide r2
   have HR3 := hide r3
   have u0 : wr.cell? ⟨W.heap.size + 2, 0, none⟩ = some (.int .i64 0) := cell_blkJ hbx rfl
   have u1 : wr.cell? ⟨W.heap.size + 2, 1, none⟩ = some (.bool false) := cell_blkJ hbx rfl
   have u2 : wr.cell? ⟨W.heap.size + 2, 2, none⟩ = some (.bool false) := cell_blkJ hbx rfl
   have u3 : wr.cell? ⟨W.heap.size + 2, 3, none⟩ = some (.slice A9 j c9) := cell_blkJ hbx rfl
   clear hzp hbx r1 r2 r3 hq
   have kb1 := KB.out wr HQ.out
   have v0 : wr.cell? ⟨W.heap.size + 1, 0, none⟩ = some (.int .i64 0) := cell_blkJ kb1 rfl
   have vf0 : wr.frozen? ⟨W.heap.size + 1, 0, none⟩ = false := frz_new (j := 0) kb1
   have v1 : wr.cell? ⟨W.heap.size + 1, 1, none⟩ = some (.bool false) := cell_blkJ kb1 rfl
   have vf1 : wr.frozen? ⟨W.heap.size + 1, 1, none⟩ = false := frz_new (j := 1) kb1
   have v2 : wr.cell? ⟨W.heap.size + 1, 2, none⟩ = some (.bool false) := cell_blkJ kb1 rfl
   have vf2 : wr.frozen? ⟨W.heap.size + 1, 2, none⟩ = false := frz_new (j := 2) kb1
   have v3 : wr.cell? ⟨W.heap.size + 1, 3, none⟩ = some (.slice none 0 0) := cell_blkJ kb1 rfl
   have vf3 : wr.frozen? ⟨W.heap.size + 1, 3, none⟩ = false := frz_new (j := 3) kb1
   clear kb1
   have HS5 := hide (set4c (w := wr) (.int .i64 0) (.bool false) (.bool false) (.slice A9 j c9) v0 v1 v2 v3 _ rfl)
   go_wp2_with fail
   obtain ⟨s0, s1, s2, s3⟩ := HS5.out
   refine bodyPost_ret (v := .agg #[.int .i64 0, .bool false, .bool false, .slice A9 j c9]) (by simp [results, Try.results51, go_sem, s0, s1, s2, s3]) rfl ?_
   exact zr_end (HQ2.out.trans HQ.out) (by omega) (show W.heap.size + 1 < W.heap.size + 3 by omega) HR1.out HR2.out (HR3.out.trans RES.out.symm)
theorem zero_any {w : World} {l : Lay} (h : LayR w l) : VL l → ∀ W, Q w W → Calls Try.prog 51 #[l.v] W (fun e w' => ZrP W l.zero e w') := by
 induction h with
 | @mk k n f A len cap ps a1 a2 a3 a4 a5 a6 ih =>
  intro hv W hW
  have hl : LayR w (.mk k n f A len cap ps) := .mk a1 a2 a3 a4 a5 a6
  have hih : ∀ p ∈ ps, ∀ W, Q w W → Calls Try.prog 51 #[p.v] W (fun e w' => ZrP W p.zero e w') := fun p hp => ih p hp (hv.part (l := .mk k n f A len cap ps) hp)
  rw [zero_mk]
  show Calls _ _ #[.agg #[.int .i64 k, .int .i64 n, .bool f, .slice A len cap]] W _
  by_cases h4 : k = 4
  ·exact zeroP_4 hl hv hih h4 W hW
  by_cases h5 : k = 5
  ·exact zeroP_5 hl hv hih h5 W hW
  by_cases h6 : k = 6
  ·exact zeroP_6 hl hv hih h6 W hW
  by_cases h8 : k = 8
  ·exact zeroP_8 hl hv hih h8 W hW
  by_cases h9 : k = 9
  ·exact zeroP_9 hl hv hih h9 W hW
  exact zeroP_no hl hv hih (by omega) W hW
end Go.Proofs.Ytbgbalfhbficaaa
