/- The program's look at any layout. What the program counts of a layout comes to the reference's count. The program's Validate of any layout. The room of a layout: plain. Conditions: as each theorem says. -/
import Derived.Test.YtbgbalfhbficaaaCz5
namespace Go.Proofs.Ytbgbalfhbficaaa
set_option maxRecDepth 100000
set_option maxHeartbeats 2000000
open Go.RowKit
set_option linter.unusedVariables false
set_option linter.unusedSimpArgs false
structure CnL (w : World) (g : Nat) (c d : Int) (L : Bool) : Prop where
 lt : g < w.heap.size
 c0 : w.cell? ⟨g, 0, none⟩ = some (.int .i64 c)
 c1 : w.cell? ⟨g, 1, none⟩ = some (.int .i64 d)
 c2 : w.cell? ⟨g, 2, none⟩ = some (.bool L)
 f0 : w.frozen? ⟨g, 0, none⟩ = false
 f1 : w.frozen? ⟨g, 1, none⟩ = false
 f2 : w.frozen? ⟨g, 2, none⟩ = false
theorem CnL.up {w w' : World} {g : Nat} {c d : Int} {L : Bool} (h : CnL w g c d L) (hq : Q w w') : CnL w' g c d L := ⟨Nat.lt_of_lt_of_le h.lt hq.size, (hq.facts.1 _ _ h.lt).trans h.c0, (hq.facts.1 _ _ h.lt).trans h.c1, (hq.facts.1 _ _ h.lt).trans h.c2, (hq.facts.2.1 _ _ h.lt).trans h.f0, (hq.facts.2.1 _ _ h.lt).trans h.f1, (hq.facts.2.1 _ _ h.lt).trans h.f2⟩
theorem CnL.set0 {w : World} {g : Nat} {c d : Int} {L : Bool} (h : CnL w g c d L) (e : Int) : CnL (w.setCell ⟨g, 0, none⟩ (.int .i64 e)) g e d L :=
 ⟨by simpa using h.lt, World.cell?_setCell_same _ _ _ h.c0, by rw [World.cell?_setCell_other _ _ _ _ (by simp)]; exact h.c1, by rw [World.cell?_setCell_other _ _ _ _ (by simp)]; exact h.c2, by rw [World.frozen?_setCell]; exact h.f0, by rw [World.frozen?_setCell]; exact h.f1, by rw [World.frozen?_setCell]; exact h.f2⟩
theorem CnL.set1 {w : World} {g : Nat} {c d : Int} {L : Bool} (h : CnL w g c d L) (e : Int) : CnL (w.setCell ⟨g, 1, none⟩ (.int .i64 e)) g c e L :=
 ⟨by simpa using h.lt, by rw [World.cell?_setCell_other _ _ _ _ (by simp)]; exact h.c0, World.cell?_setCell_same _ _ _ h.c1, by rw [World.cell?_setCell_other _ _ _ _ (by simp)]; exact h.c2, by rw [World.frozen?_setCell]; exact h.f0, by rw [World.frozen?_setCell]; exact h.f1, by rw [World.frozen?_setCell]; exact h.f2⟩
theorem CnL.set2 {w : World} {g : Nat} {c d : Int} {L : Bool} (h : CnL w g c d L) (M : Bool) : CnL (w.setCell ⟨g, 2, none⟩ (.bool M)) g c d M :=
 ⟨by simpa using h.lt, by rw [World.cell?_setCell_other _ _ _ _ (by simp)]; exact h.c0, by rw [World.cell?_setCell_other _ _ _ _ (by simp)]; exact h.c1, World.cell?_setCell_same _ _ _ h.c2, by rw [World.frozen?_setCell]; exact h.f0, by rw [World.frozen?_setCell]; exact h.f1, by rw [World.frozen?_setCell]; exact h.f2⟩
def packP (l : Lay) : Int := l.parts.foldl (fun s p => min (s + bitsL p) 1099511627776) 0
def extraP (l : Lay) : Bool := if l.k = 2 then decide (64 < l.n) else if l.k = 5 then decide (1000 < l.n) else if l.k = 7 then decide (65536 < l.n) else if l.k = 9 then decide (64 < packP l) else false
def bigP (l : Lay) : Bool := decide (12 < l.parts.length) || extraP l
def goodL (c p : Int) (l : Lay) : Prop := c + l.count ≤ 60 ∧ p + l.deep ≤ 6 ∧ l.flat.any bigP = false
theorem goodL_mk (c p k n : Int) (f : Bool) (A : Option Addr) (len cap : Nat) (ps : List Lay) : goodL c p (.mk k n f A len cap ps) ↔ (c + 1 + ((ps.map Lay.count).sum : Nat) ≤ 60 ∧ p ≤ 5 ∧ bigP (.mk k n f A len cap ps) = false ∧ ∀ q ∈ ps, p + 1 + q.deep ≤ 6 ∧ q.flat.any bigP = false) := by
 unfold goodL
 rw [count_mk, deep_mk, flat_mk, List.any_cons, List.any_flatMap, Bool.or_eq_false_iff, List.any_eq_false]
 have hfold : ((ps.map Lay.deep).foldl max 0 : Nat) ≤ 5 - p.toNat ∨ True := .inr trivial
 constructor
 ·rintro ⟨h1, h2, h3, h4⟩
  refine ⟨by omega, by omega, h3, fun q hq => ⟨?_, ?_⟩⟩
  ·have := le_foldl_max (a := 0) (List.mem_map.2 ⟨q, hq, rfl⟩ : q.deep ∈ ps.map Lay.deep)
   omega
  ·have := h4 q hq
   simpa using this
 ·rintro ⟨h1, h2, h3, h4⟩
  refine ⟨by omega, ?_, h3, fun q hq => ?_⟩
  ·have hle : ((ps.map Lay.deep).foldl max 0 : Nat) ≤ (5 - p).toNat := foldl_max_le (Nat.zero_le _) fun x hx => by
    obtain ⟨q, hq, rfl⟩ := List.mem_map.1 hx
    have := (h4 q hq).1
    omega
   omega
  ·rw [(h4 q hq).2]
   decide
def LookQ (B : World) (g : Nat) (c p : Int) (L : Bool) (l : Lay) (e : Ending) (w' : World) : Prop :=
 e = .returned (.tuple #[]) ∧ Q B w' ∧ ∃ (c' d' : Int) (L' : Bool), CnL w' g c' d' L' ∧ c ≤ c' ∧ c' ≤ c + l.count ∧ (L' = false ↔ (L = false ∧ goodL c p l)) ∧ (L' = false → c' = c + l.count)
structure LkI (B wr : World) (g : Nat) (c p : Int) (ps : List Lay) (j : Nat) (cj dj : Int) (Lj : Bool) : Prop where
 q : Q B wr
 cn : CnL wr g cj dj Lj
 lo : c + 1 ≤ cj
 hi : cj ≤ c + 1 + (((ps.take j).map Lay.count).sum : Nat)
 ok : Lj = false ↔ (c + 1 + (((ps.take j).map Lay.count).sum : Nat) ≤ 60 ∧ ∀ q ∈ ps.take j, p + 1 + q.deep ≤ 6 ∧ q.flat.any bigP = false)
 ex : Lj = false → cj = c + 1 + (((ps.take j).map Lay.count).sum : Nat)
theorem LkI.step {B wr w' : World} {g : Nat} {c p : Int} {ps : List Lay} {j : Nat} {cj dj : Int} {Lj : Bool} {q : Lay} (h : LkI B wr g c p ps j cj dj Lj) (hx : ps[j]? = some q) {e : Ending} (h2 : LookQ B g cj (p + 1) Lj q e w') : ∃ c' d' L', LkI B w' g c p ps (j + 1) c' d' L' := by
 obtain ⟨-, hq, c', d', L', hcn, h1, h3, h4, h5⟩ := h2
 have hs : ((ps.take (j + 1)).map Lay.count).sum = ((ps.take j).map Lay.count).sum + q.count := by
  rw [List.take_add_one, hx, List.map_append, List.sum_append]
  simp
 have hm : ∀ x, x ∈ ps.take (j + 1) ↔ (x ∈ ps.take j ∨ x = q) := fun x => by
  rw [List.take_add_one, hx, List.mem_append]
  simp
 refine ⟨c', d', L', hq, hcn, by have := h.lo; omega, by have := h.hi; rw [hs]; omega, ?_, fun hL => ?_⟩
 ·rw [h4, h.ok, hs]
  constructor
  ·rintro ⟨⟨a1, a2⟩, b1, b2, b3⟩
   have he := h.ex (h.ok.2 ⟨a1, a2⟩)
   refine ⟨by omega, fun x hx => ?_⟩
   rcases (hm x).1 hx with hx | rfl
   ·exact a2 x hx
   ·exact ⟨b2, b3⟩
  ·rintro ⟨a1, a2⟩
   have ho : c + 1 + (((ps.take j).map Lay.count).sum : Nat) ≤ 60 ∧ ∀ q ∈ ps.take j, p + 1 + q.deep ≤ 6 ∧ q.flat.any bigP = false := ⟨by omega, fun x hx => a2 x ((hm x).2 (.inl hx))⟩
   have he := h.ex (h.ok.2 ho)
   have hq9 := a2 q ((hm q).2 (.inr rfl))
   exact ⟨ho, by omega, hq9.1, hq9.2⟩
 ·have h6 := h4.1 hL
  have he := h.ex h6.1
  rw [h5 hL, he, hs]
  omega
theorem packP_fold (ps : List Lay) : 0 ≤ ps.foldl (fun s p => min (s + bitsL p) 1099511627776) (0 : Int) ∧ ps.foldl (fun s p => min (s + bitsL p) 1099511627776) (0 : Int) ≤ 1099511627776 := go ps 0 (by omega) (by omega)
where
 go : ∀ (ps : List Lay) (a : Int), 0 ≤ a → a ≤ 1099511627776 → 0 ≤ ps.foldl (fun s p => min (s + bitsL p) 1099511627776) a ∧ ps.foldl (fun s p => min (s + bitsL p) 1099511627776) a ≤ 1099511627776
 | [], a, h, h2 => ⟨h, h2⟩
 | p :: r, a, h, h2 => by
  rw [List.foldl_cons]
  have := bits_nn p
  exact go r _ (by omega) (by omega)
set_option maxHeartbeats 8000000 in
theorem look_any {w : World} {l : Lay} (h : LayR w l) : ∀ (B W : World) (g : Nat) (c d p : Int) (L : Bool), Q w B → B.heap.size ≤ g → Q B W → CnL W g c d L → 0 ≤ c → c + l.count ≤ 2000000 → 0 ≤ p → p ≤ 6 →
  Calls Try.prog 62 #[.pointer (some ⟨g, 0, none⟩), l.v, .int .i64 p] W (LookQ B g c p L l) := by
 induction h with
 | @mk k n f A len cap ps hk hn hsl hnil hcap hall ih =>
  intro B W g c d p L hwB hB hq h hc0 hc1 hp0 hp1
  have HIH := hide ih
  have HALLR := hide hall
  have HSL := hide hsl
  have HPL := hide hsl.len
  have HWB := hide hwB
  have HBG := hide hB
  have hlb : (len : Int) ≤ 140737488351232 := by have := hsl.cap; omega
  have hcnt := count_mk k n f A len cap ps
  have HG := hide (goodL_mk c p k n f A len cap ps)
  have HBP : Hid (bigP (.mk k n f A len cap ps) = (decide (12 < len) || extraP (.mk k n f A len cap ps))) := hide (by rw [← hsl.len]; rfl)
  have hc2 : c + 1 + ((ps.map Lay.count).sum : Nat) ≤ 2000000 := by rw [hcnt] at hc1; omega
  have HC2 := hide hc2
  have HCM : Hid (∀ q ∈ ps, q.count ≤ (ps.map Lay.count).sum) := hide fun q hq => sum_le_of_mem (List.mem_map.2 ⟨q, hq, rfl⟩)
  have HST : Hid (∀ j, ((ps.take j).map Lay.count).sum ≤ (ps.map Lay.count).sum) := hide fun j => by rw [List.map_take]; exact sum_take_le _ _
  have HFIN : Hid (∀ w' c' d' L', CnL w' g c' d' L' → Q B w' → c + 1 ≤ c' → c' ≤ c + 1 + ((ps.map Lay.count).sum : Nat) → (L' = false ↔ (L = false ∧ goodL c p (.mk k n f A len cap ps))) → (L' = false → c' = c + 1 + ((ps.map Lay.count).sum : Nat)) → LookQ B g c p L (.mk k n f A len cap ps) (.returned (.tuple #[])) w') := hide fun w' c' d' L' a1 a2 a3 a4 a5 a6 => ⟨rfl, a2, c', d', L', a1, by omega, by rw [hcnt]; omega, a5, fun hL => by rw [a6 hL, hcnt]; omega⟩
  show Calls _ _ #[.pointer (some ⟨g, 0, none⟩), .agg #[.int .i64 k, .int .i64 n, .bool f, .slice A len cap], .int .i64 p] W _
  obtain ⟨w1, hw1⟩ : ∃ w1, W.alloc (.cells #[.int .i64 k, .int .i64 n, .bool f, .slice A len cap] 24) = w1 := ⟨_, rfl⟩
  obtain ⟨hq1, hs1, hc⟩ := box1 hw1
  have hgne : g ≠ W.heap.size := by have := h.lt; omega
  obtain ⟨m, hm⟩ : ∃ m, (if d < p then p else d) = m := ⟨_, rfl⟩
  obtain ⟨w2, hw2⟩ : ∃ w2, w1.setCell ⟨g, 0, none⟩ (.int .i64 (c + 1)) = w2 := ⟨_, rfl⟩
  have hh2 : CnL w2 g (c + 1) d L := by rw [← hw2]; exact (h.up hq1).set0 _
  obtain ⟨w3, hw3⟩ : ∃ w3, w2.setCell ⟨g, 1, none⟩ (.int .i64 m) = w3 := ⟨_, rfl⟩
  have hh3 : CnL w3 g (c + 1) m L := by rw [← hw3]; exact hh2.set1 _
  have HQ3 := hide (show Q B w3 by rw [← hw3, ← hw2]; exact ((hq.trans hq1).set hB _).set hB _)
  have hk3 : ∀ (j : Nat) u, (#[Value.int .i64 k, .int .i64 n, .bool f, .slice A len cap] : Array Value)[j]? = some u → w3.cell? ⟨W.heap.size, j, none⟩ = some u := fun j u hu => by
   rw [← hw3, World.cell?_setCell_other _ _ _ _ (by simp [hgne]), ← hw2, World.cell?_setCell_other _ _ _ _ (by simp [hgne])]
   exact hc j u hu
  -- a store of the mark, and what it leaves
  have HSET : Hid (∀ (Wa : World) (c' d' : Int) (La M : Bool), CnL Wa g c' d' La → Q B Wa → (∀ (j : Nat) u, (#[Value.int .i64 k, .int .i64 n, .bool f, .slice A len cap] : Array Value)[j]? = some u → Wa.cell? ⟨W.heap.size, j, none⟩ = some u) → ∃ Wb, Wa.setCell ⟨g, 2, none⟩ (.bool M) = Wb ∧ CnL Wb g c' d' M ∧ Q B Wb ∧ ∀ (j : Nat) u, (#[Value.int .i64 k, .int .i64 n, .bool f, .slice A len cap] : Array Value)[j]? = some u → Wb.cell? ⟨W.heap.size, j, none⟩ = some u) := hide fun Wa c' d' La M a1 a2 a3 => ⟨_, rfl, a1.set2 M, a2.set hB _, fun j u hu => by
   rw [World.cell?_setCell_other _ _ _ _ (by simp [hgne])]
   exact a3 j u hu⟩
  have hww : IntKind.i64.wrap (c + 1) = c + 1 := by rw [IntKind.wrap_i64]; omega
  have H1 := hide (h.up hq1)
  have H2 := hide hh2
  have H3 := hide hh3
  have HK3 := hide hk3
  have HM := hide hm
  have HM2 := hide (show max d p = m by rw [← hm]; split <;> omega)
  have HW1 := hide hw1
  have HW2 := hide hw2
  have HW3 := hide hw3
  have hlt : W.heap.size < w3.heap.size := by rw [← hw3, ← hw2]; simp; omega
  clear hk hn hsl hnil hcap hall ih hwB hB hq h hc1 hcnt hw1 hq1 hs1 hc hgne hm hw2 hh2 hw3 hh3 hk3 hc2
  go_enter Try.func62, Try.ntmps62
  go_upto_region 1 with fail
  rw [HW1.out]
  obtain ⟨a1, a2, a3, a4, a5, a6, a7⟩ := H1.out
  go_upto_region 2 with fail
  rw [HW2.out]
  clear a1 a2 a3 a4 a5 a6 a7
  obtain ⟨a1, a2, a3, a4, a5, a6, a7⟩ := H2.out
  go_upto_region 3 with fail
  first
   | rw [HM.out, HW3.out]
   | rw [HM2.out, HW3.out]
  clear a1 a2 a3 a4 a5 a6 a7
  obtain ⟨a1, a2, a3, a4, a5, a6, a7⟩ := H3.out
  have y3 := HK3.out 3 _ rfl
  cases L with
  | true =>
   obtain ⟨w4, hw4, cnw4, qw4, kw4⟩ := HSET.out w3 _ _ _ true H3.out HQ3.out HK3.out
   have Hw4 := hide hw4
   have CNw4 := hide cnw4
   have QQw4 := hide qw4
   have KKw4 := hide kw4
   clear hw4 cnw4 qw4 kw4
   go_upto_region 4 with fail
   rw [Hw4.out]
   clear a1 a2 a3 a4 a5 a6 a7 y3
   have y0 := KKw4.out 0 _ rfl
   have y1 := KKw4.out 1 _ rfl
   obtain ⟨a1, a2, a3, a4, a5, a6, a7⟩ := CNw4.out
   by_cases h2 : k = 2
   ·subst h2
    have HEX : Hid (extraP (.mk 2 n f A len cap ps) = decide (64 < n)) := hide rfl
    obtain ⟨w5, hw5, cnw5, qw5, kw5⟩ := HSET.out w4 _ _ _ true CNw4.out QQw4.out KKw4.out
    have Hw5 := hide hw5
    have CNw5 := hide cnw5
    have QQw5 := hide qw5
    have KKw5 := hide kw5
    clear hw5 cnw5 qw5 kw5
    go_upto_region 19 with fail
    rw [Hw5.out]
    clear a1 a2 a3 a4 a5 a6 a7 y0 y1
    obtain ⟨b1, b2, b3, b4, b5, b6, b7⟩ := CNw5.out
    go_wp2_with fail
    exact bodyPost_ret (v := .tuple #[]) (by simp [results, Try.results62, go_sem]) rfl (HFIN.out _ _ _ _ CNw5.out QQw5.out (by omega) (by have := HC2.out; omega) ⟨fun h => (by cases h), fun h => (by cases h.1)⟩ (fun h => by cases h))
   have d2 : (k == 2) = false := by simp [h2]
   by_cases h5 : k = 5
   ·subst h5
    have HEX : Hid (extraP (.mk 5 n f A len cap ps) = decide (1000 < n)) := hide rfl
    obtain ⟨w5, hw5, cnw5, qw5, kw5⟩ := HSET.out w4 _ _ _ true CNw4.out QQw4.out KKw4.out
    have Hw5 := hide hw5
    have CNw5 := hide cnw5
    have QQw5 := hide qw5
    have KKw5 := hide kw5
    clear hw5 cnw5 qw5 kw5
    go_upto_region 19 with fail
    rw [Hw5.out]
    clear a1 a2 a3 a4 a5 a6 a7 y0 y1
    obtain ⟨b1, b2, b3, b4, b5, b6, b7⟩ := CNw5.out
    go_wp2_with fail
    exact bodyPost_ret (v := .tuple #[]) (by simp [results, Try.results62, go_sem]) rfl (HFIN.out _ _ _ _ CNw5.out QQw5.out (by omega) (by have := HC2.out; omega) ⟨fun h => (by cases h), fun h => (by cases h.1)⟩ (fun h => by cases h))
   have d5 : (k == 5) = false := by simp [h5]
   by_cases h7 : k = 7
   ·subst h7
    have HEX : Hid (extraP (.mk 7 n f A len cap ps) = decide (65536 < n)) := hide rfl
    obtain ⟨w5, hw5, cnw5, qw5, kw5⟩ := HSET.out w4 _ _ _ true CNw4.out QQw4.out KKw4.out
    have Hw5 := hide hw5
    have CNw5 := hide cnw5
    have QQw5 := hide qw5
    have KKw5 := hide kw5
    clear hw5 cnw5 qw5 kw5
    go_upto_region 19 with fail
    rw [Hw5.out]
    clear a1 a2 a3 a4 a5 a6 a7 y0 y1
    obtain ⟨b1, b2, b3, b4, b5, b6, b7⟩ := CNw5.out
    go_wp2_with fail
    exact bodyPost_ret (v := .tuple #[]) (by simp [results, Try.results62, go_sem]) rfl (HFIN.out _ _ _ _ CNw5.out QQw5.out (by omega) (by have := HC2.out; omega) ⟨fun h => (by cases h), fun h => (by cases h.1)⟩ (fun h => by cases h))
   have d7 : (k == 7) = false := by simp [h7]
   by_cases h9 : k = 9
   ·subst h9
    have HEX : Hid (extraP (.mk 9 n f A len cap ps) = decide (64 < packP (.mk 9 n f A len cap ps))) := hide rfl
    clear a1 a2 a3 a4 a5 a6 a7 y1
    obtain ⟨a1, a2, a3, a4, a5, a6, a7⟩ := CNw4.out
    clear a1 a2 a3 a4 a5 a6 a7
    have y3' := KKw4.out 3 _ rfl
    obtain ⟨b1, b2, b3, b4, b5, b6, b7⟩ := CNw4.out
    have hltw : W.heap.size < w4.heap.size := by rw [← Hw4.out]; simpa using hlt
    go_wp2_with fail
    clear b1 b2 b3 b4 b5 b6 b7 y3'
    go_loopw [6, 100] (fun v6 vi wr => ∃ j : Nat, j ≤ len ∧ vi = .int .i64 j ∧ v6 = .int .i64 ((ps.take j).foldl (fun s p => min (s + bitsL p) 1099511627776) (0 : Int)) ∧ Q w4 wr) (fun _ vi _ => len - (intOf vi).toNat)
    case atStart => exact ⟨0, by omega, by go_num, by simp, Q.refl _⟩
    case round =>
     obtain ⟨j, hj, rfl, rfl, hqj⟩ := hrel
     have HQJ := hide hqj
     by_cases hlt9 : j < len
     ·have hd1 : decide ((j : Int) < (len : Int)) = true := by simp; omega
      have hd0 : decide (j < len) = true := by simp; omega
      have hlti : (j : Int) < (len : Int) := by omega
      obtain ⟨b, o, m', x', y', Bq, l', d', qs, e, hb, hx, z0, z1, z2, z3⟩ := lay_at (HSL.out.up (HWB.out.trans (QQw4.out.trans hqj))) hlt9
      cases e
      obtain ⟨pq, hpe⟩ : ∃ pq, Lay.mk m' x' y' Bq l' d' qs = pq := ⟨_, rfl⟩
      have hpv : pq.v = .agg #[.int .i64 m', .int .i64 x', .bool y', .slice Bq l' d'] := by rw [← hpe]; rfl
      rw [hpe] at hx
      obtain ⟨wa, hwa⟩ : ∃ wa, wr.alloc (.cells #[.int .i64 m', .int .i64 x', .bool y', .slice Bq l' d'] 24) = wa := ⟨_, rfl⟩
      obtain ⟨hqa, hsa, hca⟩ := box1 hwa
      have t0 := hca 0 _ rfl
      have t1 := hca 1 _ rfl
      have t2 := hca 2 _ rfl
      have t3 := hca 3 _ rfl
      have HC := hide (bitsP_any (HALLR.out pq (List.mem_of_getElem? hx)) wa (HWB.out.trans (QQw4.out.trans (hqj.trans hqa))))
      unfold R1 at HC
      rw [hpv] at HC
      obtain ⟨hb0, hb1⟩ := packP_fold (ps.take j)
      have hnn := bits_nn pq
      have hst := fold_take (fun (s : Int) p => min (s + bitsL p) 1099511627776) (0 : Int) hx
      try dsimp only at hst
      obtain ⟨acc, hacc⟩ : ∃ acc, (ps.take j).foldl (fun s p => min (s + bitsL p) 1099511627776) (0 : Int) = acc := ⟨_, rfl⟩
      obtain ⟨bp, hbp⟩ : ∃ bp, bitsL pq = bp := ⟨_, rfl⟩
      rw [hacc] at hb0 hb1 hst ⊢
      rw [hbp] at hnn hst HC
      have HST2 := hide hst
      have HWA := hide hwa
      have HQA := hide (hqj.trans hqa)
      clear hacc hbp hst hpe hpv hx hwa hqa hsa hca hqj
      go_upto_region 16 with fail
      rw [HWA.out]
      clear z0 z1 z2 z3
      go_wp2_with fail
      refine HC.out.mono ?_
      rintro e w5 ⟨rfl, hq5⟩
      obtain ⟨w6, hw6⟩ : ∃ w6, w5.alloc (.cells #[.int .i64 acc, .int .i64 bp] 3) = w6 := ⟨_, rfl⟩
      obtain ⟨hq6, hs6, hc6⟩ := box1 hw6
      have HS6 := hide (sum2g w5.heap.size acc bp w6 (by omega) (hc6 0 _ rfl) (hc6 1 _ rfl) hb0 hnn)
      unfold R1 at HS6
      have HQ6 := hide (HQA.out.trans (hq5.trans hq6))
      have HW6 := hide hw6
      clear hq5 hq6 hw6 hc6 hs6 t0 t1 t2 t3
      go_wp2_with fail
      rw [HW6.out]
      refine HS6.out.mono ?_
      rintro e w7 ⟨rfl, hq7⟩
      have HQ7 := hide (HQ6.out.trans hq7)
      clear hq7
      go_wp2_with fail
      go_roundw
      case rel => exact ⟨j + 1, by omega, by go_num, by first | (rw [HST2.out]; done) | (rw [HST2.out]; congr 1; done) | (rw [HST2.out]; congr 1; omega), HQ7.out⟩
      case measure => simp [intOf] <;> omega
     ·have hd1 : decide ((j : Int) < (len : Int)) = false := by simp; omega
      have hd0 : decide (j < len) = false := by simp; omega
      obtain rfl : len = j := by omega
      have hta : ps.take len = ps := List.take_of_length_le (by have := HPL.out; omega)
      rw [hta]
      obtain ⟨acc, hacc⟩ : ∃ acc, ps.foldl (fun s p => min (s + bitsL p) 1099511627776) (0 : Int) = acc := ⟨_, rfl⟩
      have HACC := hide (show packP (.mk 9 n f A len cap ps) = acc from hacc)
      rw [hacc]
      have HCNJ := hide (CNw4.out.up hqj)
      have HQBJ := hide (QQw4.out.trans hqj)
      have HKJ := hide (fun (i : Nat) u (hu : (#[Value.int .i64 9, .int .i64 n, .bool f, .slice A len cap] : Array Value)[i]? = some u) => (hqj.facts.1 _ i hltw).trans (KKw4.out i u hu))
      clear hta hacc hqj
      obtain ⟨w8, hw8, cnw8, qw8, kw8⟩ := HSET.out wr _ _ _ true HCNJ.out HQBJ.out HKJ.out
      have Hw8 := hide hw8
      have CNw8 := hide cnw8
      have QQw8 := hide qw8
      have KKw8 := hide kw8
      clear hw8 cnw8 qw8 kw8
      obtain ⟨a1, a2, a3, a4, a5, a6, a7⟩ := HCNJ.out
      go_upto_region 19 with fail
      rw [Hw8.out]
      clear a1 a2 a3 a4 a5 a6 a7
      obtain ⟨b1, b2, b3, b4, b5, b6, b7⟩ := CNw8.out
      go_wp2_with fail
      exact bodyPost_ret (v := .tuple #[]) (by simp [results, Try.results62, go_sem]) rfl (HFIN.out _ _ _ _ CNw8.out QQw8.out (by omega) (by have := HC2.out; omega) ⟨fun h => (by cases h), fun h => (by cases h.1)⟩ (fun h => by cases h))
   have d9 : (k == 9) = false := by simp [h9]
   have HEX : Hid (extraP (.mk k n f A len cap ps) = false) := hide (by show (if k = 2 then _ else if k = 5 then _ else if k = 7 then _ else if k = 9 then _ else false) = false; rw [if_neg h2, if_neg h5, if_neg h7, if_neg h9])
   clear h2 h5 h7 h9
   go_upto_region 19 with fail
   clear a1 a2 a3 a4 a5 a6 a7 y0 y1
   obtain ⟨b1, b2, b3, b4, b5, b6, b7⟩ := CNw4.out
   go_wp2_with fail
   exact bodyPost_ret (v := .tuple #[]) (by simp [results, Try.results62, go_sem]) rfl (HFIN.out _ _ _ _ CNw4.out QQw4.out (by omega) (by have := HC2.out; omega) ⟨fun h => (by cases h), fun h => (by cases h.1)⟩ (fun h => by cases h))
  | false =>
   by_cases h60 : 60 < c + 1
   ·have d60 : decide ((60 : Int) < c + 1) = true := by simp; omega
    have HXB := hide (show ¬ (false = false ∧ goodL c p (.mk k n f A len cap ps)) from fun h => by have h1 := (HG.out.1 h.2).1; omega)
    obtain ⟨w4, hw4, cnw4, qw4, kw4⟩ := HSET.out w3 _ _ _ true H3.out HQ3.out HK3.out
    have Hw4 := hide hw4
    have CNw4 := hide cnw4
    have QQw4 := hide qw4
    have KKw4 := hide kw4
    clear hw4 cnw4 qw4 kw4
    go_upto_region 4 with fail
    rw [Hw4.out]
    clear a1 a2 a3 a4 a5 a6 a7 y3
    have y0 := KKw4.out 0 _ rfl
    have y1 := KKw4.out 1 _ rfl
    obtain ⟨a1, a2, a3, a4, a5, a6, a7⟩ := CNw4.out
    by_cases h2 : k = 2
    ·subst h2
     have HEX : Hid (extraP (.mk 2 n f A len cap ps) = decide (64 < n)) := hide rfl
     obtain ⟨w5, hw5, cnw5, qw5, kw5⟩ := HSET.out w4 _ _ _ true CNw4.out QQw4.out KKw4.out
     have Hw5 := hide hw5
     have CNw5 := hide cnw5
     have QQw5 := hide qw5
     have KKw5 := hide kw5
     clear hw5 cnw5 qw5 kw5
     go_upto_region 19 with fail
     rw [Hw5.out]
     clear a1 a2 a3 a4 a5 a6 a7 y0 y1
     obtain ⟨b1, b2, b3, b4, b5, b6, b7⟩ := CNw5.out
     go_wp2_with fail
     exact bodyPost_ret (v := .tuple #[]) (by simp [results, Try.results62, go_sem]) rfl (HFIN.out _ _ _ _ CNw5.out QQw5.out (by omega) (by have := HC2.out; omega) ⟨fun h => (by cases h), fun h => absurd h HXB.out⟩ (fun h => by cases h))
    have d2 : (k == 2) = false := by simp [h2]
    by_cases h5 : k = 5
    ·subst h5
     have HEX : Hid (extraP (.mk 5 n f A len cap ps) = decide (1000 < n)) := hide rfl
     obtain ⟨w5, hw5, cnw5, qw5, kw5⟩ := HSET.out w4 _ _ _ true CNw4.out QQw4.out KKw4.out
     have Hw5 := hide hw5
     have CNw5 := hide cnw5
     have QQw5 := hide qw5
     have KKw5 := hide kw5
     clear hw5 cnw5 qw5 kw5
     go_upto_region 19 with fail
     rw [Hw5.out]
     clear a1 a2 a3 a4 a5 a6 a7 y0 y1
     obtain ⟨b1, b2, b3, b4, b5, b6, b7⟩ := CNw5.out
     go_wp2_with fail
     exact bodyPost_ret (v := .tuple #[]) (by simp [results, Try.results62, go_sem]) rfl (HFIN.out _ _ _ _ CNw5.out QQw5.out (by omega) (by have := HC2.out; omega) ⟨fun h => (by cases h), fun h => absurd h HXB.out⟩ (fun h => by cases h))
    have d5 : (k == 5) = false := by simp [h5]
    by_cases h7 : k = 7
    ·subst h7
     have HEX : Hid (extraP (.mk 7 n f A len cap ps) = decide (65536 < n)) := hide rfl
     obtain ⟨w5, hw5, cnw5, qw5, kw5⟩ := HSET.out w4 _ _ _ true CNw4.out QQw4.out KKw4.out
     have Hw5 := hide hw5
     have CNw5 := hide cnw5
     have QQw5 := hide qw5
     have KKw5 := hide kw5
     clear hw5 cnw5 qw5 kw5
     go_upto_region 19 with fail
     rw [Hw5.out]
     clear a1 a2 a3 a4 a5 a6 a7 y0 y1
     obtain ⟨b1, b2, b3, b4, b5, b6, b7⟩ := CNw5.out
     go_wp2_with fail
     exact bodyPost_ret (v := .tuple #[]) (by simp [results, Try.results62, go_sem]) rfl (HFIN.out _ _ _ _ CNw5.out QQw5.out (by omega) (by have := HC2.out; omega) ⟨fun h => (by cases h), fun h => absurd h HXB.out⟩ (fun h => by cases h))
    have d7 : (k == 7) = false := by simp [h7]
    by_cases h9 : k = 9
    ·subst h9
     have HEX : Hid (extraP (.mk 9 n f A len cap ps) = decide (64 < packP (.mk 9 n f A len cap ps))) := hide rfl
     clear a1 a2 a3 a4 a5 a6 a7 y1
     obtain ⟨a1, a2, a3, a4, a5, a6, a7⟩ := CNw4.out
     clear a1 a2 a3 a4 a5 a6 a7
     have y3' := KKw4.out 3 _ rfl
     obtain ⟨b1, b2, b3, b4, b5, b6, b7⟩ := CNw4.out
     have hltw : W.heap.size < w4.heap.size := by rw [← Hw4.out]; simpa using hlt
     go_wp2_with fail
     clear b1 b2 b3 b4 b5 b6 b7 y3'
     go_loopw [6, 100] (fun v6 vi wr => ∃ j : Nat, j ≤ len ∧ vi = .int .i64 j ∧ v6 = .int .i64 ((ps.take j).foldl (fun s p => min (s + bitsL p) 1099511627776) (0 : Int)) ∧ Q w4 wr) (fun _ vi _ => len - (intOf vi).toNat)
     case atStart => exact ⟨0, by omega, by go_num, by simp, Q.refl _⟩
     case round =>
      obtain ⟨j, hj, rfl, rfl, hqj⟩ := hrel
      have HQJ := hide hqj
      by_cases hlt9 : j < len
      ·have hd1 : decide ((j : Int) < (len : Int)) = true := by simp; omega
       have hd0 : decide (j < len) = true := by simp; omega
       have hlti : (j : Int) < (len : Int) := by omega
       obtain ⟨b, o, m', x', y', Bq, l', d', qs, e, hb, hx, z0, z1, z2, z3⟩ := lay_at (HSL.out.up (HWB.out.trans (QQw4.out.trans hqj))) hlt9
       cases e
       obtain ⟨pq, hpe⟩ : ∃ pq, Lay.mk m' x' y' Bq l' d' qs = pq := ⟨_, rfl⟩
       have hpv : pq.v = .agg #[.int .i64 m', .int .i64 x', .bool y', .slice Bq l' d'] := by rw [← hpe]; rfl
       rw [hpe] at hx
       obtain ⟨wa, hwa⟩ : ∃ wa, wr.alloc (.cells #[.int .i64 m', .int .i64 x', .bool y', .slice Bq l' d'] 24) = wa := ⟨_, rfl⟩
       obtain ⟨hqa, hsa, hca⟩ := box1 hwa
       have t0 := hca 0 _ rfl
       have t1 := hca 1 _ rfl
       have t2 := hca 2 _ rfl
       have t3 := hca 3 _ rfl
       have HC := hide (bitsP_any (HALLR.out pq (List.mem_of_getElem? hx)) wa (HWB.out.trans (QQw4.out.trans (hqj.trans hqa))))
       unfold R1 at HC
       rw [hpv] at HC
       obtain ⟨hb0, hb1⟩ := packP_fold (ps.take j)
       have hnn := bits_nn pq
       have hst := fold_take (fun (s : Int) p => min (s + bitsL p) 1099511627776) (0 : Int) hx
       try dsimp only at hst
       obtain ⟨acc, hacc⟩ : ∃ acc, (ps.take j).foldl (fun s p => min (s + bitsL p) 1099511627776) (0 : Int) = acc := ⟨_, rfl⟩
       obtain ⟨bp, hbp⟩ : ∃ bp, bitsL pq = bp := ⟨_, rfl⟩
       rw [hacc] at hb0 hb1 hst ⊢
       rw [hbp] at hnn hst HC
       have HST2 := hide hst
       have HWA := hide hwa
       have HQA := hide (hqj.trans hqa)
       clear hacc hbp hst hpe hpv hx hwa hqa hsa hca hqj
       go_upto_region 16 with fail
       rw [HWA.out]
       clear z0 z1 z2 z3
       go_wp2_with fail
       refine HC.out.mono ?_
       rintro e w5 ⟨rfl, hq5⟩
       obtain ⟨w6, hw6⟩ : ∃ w6, w5.alloc (.cells #[.int .i64 acc, .int .i64 bp] 3) = w6 := ⟨_, rfl⟩
       obtain ⟨hq6, hs6, hc6⟩ := box1 hw6
       have HS6 := hide (sum2g w5.heap.size acc bp w6 (by omega) (hc6 0 _ rfl) (hc6 1 _ rfl) hb0 hnn)
       unfold R1 at HS6
       have HQ6 := hide (HQA.out.trans (hq5.trans hq6))
       have HW6 := hide hw6
       clear hq5 hq6 hw6 hc6 hs6 t0 t1 t2 t3
       go_wp2_with fail
       rw [HW6.out]
       refine HS6.out.mono ?_
       rintro e w7 ⟨rfl, hq7⟩
       have HQ7 := hide (HQ6.out.trans hq7)
       clear hq7
       go_wp2_with fail
       go_roundw
       case rel => exact ⟨j + 1, by omega, by go_num, by first | (rw [HST2.out]; done) | (rw [HST2.out]; congr 1; done) | (rw [HST2.out]; congr 1; omega), HQ7.out⟩
       case measure => simp [intOf] <;> omega
      ·have hd1 : decide ((j : Int) < (len : Int)) = false := by simp; omega
       have hd0 : decide (j < len) = false := by simp; omega
       obtain rfl : len = j := by omega
       have hta : ps.take len = ps := List.take_of_length_le (by have := HPL.out; omega)
       rw [hta]
       obtain ⟨acc, hacc⟩ : ∃ acc, ps.foldl (fun s p => min (s + bitsL p) 1099511627776) (0 : Int) = acc := ⟨_, rfl⟩
       have HACC := hide (show packP (.mk 9 n f A len cap ps) = acc from hacc)
       rw [hacc]
       have HCNJ := hide (CNw4.out.up hqj)
       have HQBJ := hide (QQw4.out.trans hqj)
       have HKJ := hide (fun (i : Nat) u (hu : (#[Value.int .i64 9, .int .i64 n, .bool f, .slice A len cap] : Array Value)[i]? = some u) => (hqj.facts.1 _ i hltw).trans (KKw4.out i u hu))
       clear hta hacc hqj
       obtain ⟨w8, hw8, cnw8, qw8, kw8⟩ := HSET.out wr _ _ _ true HCNJ.out HQBJ.out HKJ.out
       have Hw8 := hide hw8
       have CNw8 := hide cnw8
       have QQw8 := hide qw8
       have KKw8 := hide kw8
       clear hw8 cnw8 qw8 kw8
       obtain ⟨a1, a2, a3, a4, a5, a6, a7⟩ := HCNJ.out
       go_upto_region 19 with fail
       rw [Hw8.out]
       clear a1 a2 a3 a4 a5 a6 a7
       obtain ⟨b1, b2, b3, b4, b5, b6, b7⟩ := CNw8.out
       go_wp2_with fail
       exact bodyPost_ret (v := .tuple #[]) (by simp [results, Try.results62, go_sem]) rfl (HFIN.out _ _ _ _ CNw8.out QQw8.out (by omega) (by have := HC2.out; omega) ⟨fun h => (by cases h), fun h => absurd h HXB.out⟩ (fun h => by cases h))
    have d9 : (k == 9) = false := by simp [h9]
    have HEX : Hid (extraP (.mk k n f A len cap ps) = false) := hide (by show (if k = 2 then _ else if k = 5 then _ else if k = 7 then _ else if k = 9 then _ else false) = false; rw [if_neg h2, if_neg h5, if_neg h7, if_neg h9])
    clear h2 h5 h7 h9
    go_upto_region 19 with fail
    clear a1 a2 a3 a4 a5 a6 a7 y0 y1
    obtain ⟨b1, b2, b3, b4, b5, b6, b7⟩ := CNw4.out
    go_wp2_with fail
    exact bodyPost_ret (v := .tuple #[]) (by simp [results, Try.results62, go_sem]) rfl (HFIN.out _ _ _ _ CNw4.out QQw4.out (by omega) (by have := HC2.out; omega) ⟨fun h => (by cases h), fun h => absurd h HXB.out⟩ (fun h => by cases h))
   have d60 : decide ((60 : Int) < c + 1) = false := by simp; omega
   by_cases hp5 : 5 < p
   ·have dp5 : decide ((5 : Int) < p) = true := by simp; omega
    have HXB := hide (show ¬ (false = false ∧ goodL c p (.mk k n f A len cap ps)) from fun h => by have h1 := (HG.out.1 h.2).2.1; omega)
    obtain ⟨w4, hw4, cnw4, qw4, kw4⟩ := HSET.out w3 _ _ _ true H3.out HQ3.out HK3.out
    have Hw4 := hide hw4
    have CNw4 := hide cnw4
    have QQw4 := hide qw4
    have KKw4 := hide kw4
    clear hw4 cnw4 qw4 kw4
    go_upto_region 4 with fail
    rw [Hw4.out]
    clear a1 a2 a3 a4 a5 a6 a7 y3
    have y0 := KKw4.out 0 _ rfl
    have y1 := KKw4.out 1 _ rfl
    obtain ⟨a1, a2, a3, a4, a5, a6, a7⟩ := CNw4.out
    by_cases h2 : k = 2
    ·subst h2
     have HEX : Hid (extraP (.mk 2 n f A len cap ps) = decide (64 < n)) := hide rfl
     obtain ⟨w5, hw5, cnw5, qw5, kw5⟩ := HSET.out w4 _ _ _ true CNw4.out QQw4.out KKw4.out
     have Hw5 := hide hw5
     have CNw5 := hide cnw5
     have QQw5 := hide qw5
     have KKw5 := hide kw5
     clear hw5 cnw5 qw5 kw5
     go_upto_region 19 with fail
     rw [Hw5.out]
     clear a1 a2 a3 a4 a5 a6 a7 y0 y1
     obtain ⟨b1, b2, b3, b4, b5, b6, b7⟩ := CNw5.out
     go_wp2_with fail
     exact bodyPost_ret (v := .tuple #[]) (by simp [results, Try.results62, go_sem]) rfl (HFIN.out _ _ _ _ CNw5.out QQw5.out (by omega) (by have := HC2.out; omega) ⟨fun h => (by cases h), fun h => absurd h HXB.out⟩ (fun h => by cases h))
    have d2 : (k == 2) = false := by simp [h2]
    by_cases h5 : k = 5
    ·subst h5
     have HEX : Hid (extraP (.mk 5 n f A len cap ps) = decide (1000 < n)) := hide rfl
     obtain ⟨w5, hw5, cnw5, qw5, kw5⟩ := HSET.out w4 _ _ _ true CNw4.out QQw4.out KKw4.out
     have Hw5 := hide hw5
     have CNw5 := hide cnw5
     have QQw5 := hide qw5
     have KKw5 := hide kw5
     clear hw5 cnw5 qw5 kw5
     go_upto_region 19 with fail
     rw [Hw5.out]
     clear a1 a2 a3 a4 a5 a6 a7 y0 y1
     obtain ⟨b1, b2, b3, b4, b5, b6, b7⟩ := CNw5.out
     go_wp2_with fail
     exact bodyPost_ret (v := .tuple #[]) (by simp [results, Try.results62, go_sem]) rfl (HFIN.out _ _ _ _ CNw5.out QQw5.out (by omega) (by have := HC2.out; omega) ⟨fun h => (by cases h), fun h => absurd h HXB.out⟩ (fun h => by cases h))
    have d5 : (k == 5) = false := by simp [h5]
    by_cases h7 : k = 7
    ·subst h7
     have HEX : Hid (extraP (.mk 7 n f A len cap ps) = decide (65536 < n)) := hide rfl
     obtain ⟨w5, hw5, cnw5, qw5, kw5⟩ := HSET.out w4 _ _ _ true CNw4.out QQw4.out KKw4.out
     have Hw5 := hide hw5
     have CNw5 := hide cnw5
     have QQw5 := hide qw5
     have KKw5 := hide kw5
     clear hw5 cnw5 qw5 kw5
     go_upto_region 19 with fail
     rw [Hw5.out]
     clear a1 a2 a3 a4 a5 a6 a7 y0 y1
     obtain ⟨b1, b2, b3, b4, b5, b6, b7⟩ := CNw5.out
     go_wp2_with fail
     exact bodyPost_ret (v := .tuple #[]) (by simp [results, Try.results62, go_sem]) rfl (HFIN.out _ _ _ _ CNw5.out QQw5.out (by omega) (by have := HC2.out; omega) ⟨fun h => (by cases h), fun h => absurd h HXB.out⟩ (fun h => by cases h))
    have d7 : (k == 7) = false := by simp [h7]
    by_cases h9 : k = 9
    ·subst h9
     have HEX : Hid (extraP (.mk 9 n f A len cap ps) = decide (64 < packP (.mk 9 n f A len cap ps))) := hide rfl
     clear a1 a2 a3 a4 a5 a6 a7 y1
     obtain ⟨a1, a2, a3, a4, a5, a6, a7⟩ := CNw4.out
     clear a1 a2 a3 a4 a5 a6 a7
     have y3' := KKw4.out 3 _ rfl
     obtain ⟨b1, b2, b3, b4, b5, b6, b7⟩ := CNw4.out
     have hltw : W.heap.size < w4.heap.size := by rw [← Hw4.out]; simpa using hlt
     go_wp2_with fail
     clear b1 b2 b3 b4 b5 b6 b7 y3'
     go_loopw [6, 100] (fun v6 vi wr => ∃ j : Nat, j ≤ len ∧ vi = .int .i64 j ∧ v6 = .int .i64 ((ps.take j).foldl (fun s p => min (s + bitsL p) 1099511627776) (0 : Int)) ∧ Q w4 wr) (fun _ vi _ => len - (intOf vi).toNat)
     case atStart => exact ⟨0, by omega, by go_num, by simp, Q.refl _⟩
     case round =>
      obtain ⟨j, hj, rfl, rfl, hqj⟩ := hrel
      have HQJ := hide hqj
      by_cases hlt9 : j < len
      ·have hd1 : decide ((j : Int) < (len : Int)) = true := by simp; omega
       have hd0 : decide (j < len) = true := by simp; omega
       have hlti : (j : Int) < (len : Int) := by omega
       obtain ⟨b, o, m', x', y', Bq, l', d', qs, e, hb, hx, z0, z1, z2, z3⟩ := lay_at (HSL.out.up (HWB.out.trans (QQw4.out.trans hqj))) hlt9
       cases e
       obtain ⟨pq, hpe⟩ : ∃ pq, Lay.mk m' x' y' Bq l' d' qs = pq := ⟨_, rfl⟩
       have hpv : pq.v = .agg #[.int .i64 m', .int .i64 x', .bool y', .slice Bq l' d'] := by rw [← hpe]; rfl
       rw [hpe] at hx
       obtain ⟨wa, hwa⟩ : ∃ wa, wr.alloc (.cells #[.int .i64 m', .int .i64 x', .bool y', .slice Bq l' d'] 24) = wa := ⟨_, rfl⟩
       obtain ⟨hqa, hsa, hca⟩ := box1 hwa
       have t0 := hca 0 _ rfl
       have t1 := hca 1 _ rfl
       have t2 := hca 2 _ rfl
       have t3 := hca 3 _ rfl
       have HC := hide (bitsP_any (HALLR.out pq (List.mem_of_getElem? hx)) wa (HWB.out.trans (QQw4.out.trans (hqj.trans hqa))))
       unfold R1 at HC
       rw [hpv] at HC
       obtain ⟨hb0, hb1⟩ := packP_fold (ps.take j)
       have hnn := bits_nn pq
       have hst := fold_take (fun (s : Int) p => min (s + bitsL p) 1099511627776) (0 : Int) hx
       try dsimp only at hst
       obtain ⟨acc, hacc⟩ : ∃ acc, (ps.take j).foldl (fun s p => min (s + bitsL p) 1099511627776) (0 : Int) = acc := ⟨_, rfl⟩
       obtain ⟨bp, hbp⟩ : ∃ bp, bitsL pq = bp := ⟨_, rfl⟩
       rw [hacc] at hb0 hb1 hst ⊢
       rw [hbp] at hnn hst HC
       have HST2 := hide hst
       have HWA := hide hwa
       have HQA := hide (hqj.trans hqa)
       clear hacc hbp hst hpe hpv hx hwa hqa hsa hca hqj
       go_upto_region 16 with fail
       rw [HWA.out]
       clear z0 z1 z2 z3
       go_wp2_with fail
       refine HC.out.mono ?_
       rintro e w5 ⟨rfl, hq5⟩
       obtain ⟨w6, hw6⟩ : ∃ w6, w5.alloc (.cells #[.int .i64 acc, .int .i64 bp] 3) = w6 := ⟨_, rfl⟩
       obtain ⟨hq6, hs6, hc6⟩ := box1 hw6
       have HS6 := hide (sum2g w5.heap.size acc bp w6 (by omega) (hc6 0 _ rfl) (hc6 1 _ rfl) hb0 hnn)
       unfold R1 at HS6
       have HQ6 := hide (HQA.out.trans (hq5.trans hq6))
       have HW6 := hide hw6
       clear hq5 hq6 hw6 hc6 hs6 t0 t1 t2 t3
       go_wp2_with fail
       rw [HW6.out]
       refine HS6.out.mono ?_
       rintro e w7 ⟨rfl, hq7⟩
       have HQ7 := hide (HQ6.out.trans hq7)
       clear hq7
       go_wp2_with fail
       go_roundw
       case rel => exact ⟨j + 1, by omega, by go_num, by first | (rw [HST2.out]; done) | (rw [HST2.out]; congr 1; done) | (rw [HST2.out]; congr 1; omega), HQ7.out⟩
       case measure => simp [intOf] <;> omega
      ·have hd1 : decide ((j : Int) < (len : Int)) = false := by simp; omega
       have hd0 : decide (j < len) = false := by simp; omega
       obtain rfl : len = j := by omega
       have hta : ps.take len = ps := List.take_of_length_le (by have := HPL.out; omega)
       rw [hta]
       obtain ⟨acc, hacc⟩ : ∃ acc, ps.foldl (fun s p => min (s + bitsL p) 1099511627776) (0 : Int) = acc := ⟨_, rfl⟩
       have HACC := hide (show packP (.mk 9 n f A len cap ps) = acc from hacc)
       rw [hacc]
       have HCNJ := hide (CNw4.out.up hqj)
       have HQBJ := hide (QQw4.out.trans hqj)
       have HKJ := hide (fun (i : Nat) u (hu : (#[Value.int .i64 9, .int .i64 n, .bool f, .slice A len cap] : Array Value)[i]? = some u) => (hqj.facts.1 _ i hltw).trans (KKw4.out i u hu))
       clear hta hacc hqj
       obtain ⟨w8, hw8, cnw8, qw8, kw8⟩ := HSET.out wr _ _ _ true HCNJ.out HQBJ.out HKJ.out
       have Hw8 := hide hw8
       have CNw8 := hide cnw8
       have QQw8 := hide qw8
       have KKw8 := hide kw8
       clear hw8 cnw8 qw8 kw8
       obtain ⟨a1, a2, a3, a4, a5, a6, a7⟩ := HCNJ.out
       go_upto_region 19 with fail
       rw [Hw8.out]
       clear a1 a2 a3 a4 a5 a6 a7
       obtain ⟨b1, b2, b3, b4, b5, b6, b7⟩ := CNw8.out
       go_wp2_with fail
       exact bodyPost_ret (v := .tuple #[]) (by simp [results, Try.results62, go_sem]) rfl (HFIN.out _ _ _ _ CNw8.out QQw8.out (by omega) (by have := HC2.out; omega) ⟨fun h => (by cases h), fun h => absurd h HXB.out⟩ (fun h => by cases h))
    have d9 : (k == 9) = false := by simp [h9]
    have HEX : Hid (extraP (.mk k n f A len cap ps) = false) := hide (by show (if k = 2 then _ else if k = 5 then _ else if k = 7 then _ else if k = 9 then _ else false) = false; rw [if_neg h2, if_neg h5, if_neg h7, if_neg h9])
    clear h2 h5 h7 h9
    go_upto_region 19 with fail
    clear a1 a2 a3 a4 a5 a6 a7 y0 y1
    obtain ⟨b1, b2, b3, b4, b5, b6, b7⟩ := CNw4.out
    go_wp2_with fail
    exact bodyPost_ret (v := .tuple #[]) (by simp [results, Try.results62, go_sem]) rfl (HFIN.out _ _ _ _ CNw4.out QQw4.out (by omega) (by have := HC2.out; omega) ⟨fun h => (by cases h), fun h => absurd h HXB.out⟩ (fun h => by cases h))
   have dp5 : decide ((5 : Int) < p) = false := by simp; omega
   by_cases h12 : 12 < len
   ·have d12i : decide ((12 : Int) < (len : Int)) = true := by simp; omega
    have HXB := hide (show ¬ (false = false ∧ goodL c p (.mk k n f A len cap ps)) from fun h => by have h1 := (HG.out.1 h.2).2.2.1; rw [HBP.out, show decide (12 < len) = true by simp [h12]] at h1; cases h1)
    clear h12
    obtain ⟨w4, hw4, cnw4, qw4, kw4⟩ := HSET.out w3 _ _ _ true H3.out HQ3.out HK3.out
    have Hw4 := hide hw4
    have CNw4 := hide cnw4
    have QQw4 := hide qw4
    have KKw4 := hide kw4
    clear hw4 cnw4 qw4 kw4
    go_upto_region 4 with fail
    rw [Hw4.out]
    clear a1 a2 a3 a4 a5 a6 a7 y3
    have y0 := KKw4.out 0 _ rfl
    have y1 := KKw4.out 1 _ rfl
    obtain ⟨a1, a2, a3, a4, a5, a6, a7⟩ := CNw4.out
    by_cases h2 : k = 2
    ·subst h2
     have HEX : Hid (extraP (.mk 2 n f A len cap ps) = decide (64 < n)) := hide rfl
     obtain ⟨w5, hw5, cnw5, qw5, kw5⟩ := HSET.out w4 _ _ _ true CNw4.out QQw4.out KKw4.out
     have Hw5 := hide hw5
     have CNw5 := hide cnw5
     have QQw5 := hide qw5
     have KKw5 := hide kw5
     clear hw5 cnw5 qw5 kw5
     go_upto_region 19 with fail
     rw [Hw5.out]
     clear a1 a2 a3 a4 a5 a6 a7 y0 y1
     obtain ⟨b1, b2, b3, b4, b5, b6, b7⟩ := CNw5.out
     go_wp2_with fail
     exact bodyPost_ret (v := .tuple #[]) (by simp [results, Try.results62, go_sem]) rfl (HFIN.out _ _ _ _ CNw5.out QQw5.out (by omega) (by have := HC2.out; omega) ⟨fun h => (by cases h), fun h => absurd h HXB.out⟩ (fun h => by cases h))
    have d2 : (k == 2) = false := by simp [h2]
    by_cases h5 : k = 5
    ·subst h5
     have HEX : Hid (extraP (.mk 5 n f A len cap ps) = decide (1000 < n)) := hide rfl
     obtain ⟨w5, hw5, cnw5, qw5, kw5⟩ := HSET.out w4 _ _ _ true CNw4.out QQw4.out KKw4.out
     have Hw5 := hide hw5
     have CNw5 := hide cnw5
     have QQw5 := hide qw5
     have KKw5 := hide kw5
     clear hw5 cnw5 qw5 kw5
     go_upto_region 19 with fail
     rw [Hw5.out]
     clear a1 a2 a3 a4 a5 a6 a7 y0 y1
     obtain ⟨b1, b2, b3, b4, b5, b6, b7⟩ := CNw5.out
     go_wp2_with fail
     exact bodyPost_ret (v := .tuple #[]) (by simp [results, Try.results62, go_sem]) rfl (HFIN.out _ _ _ _ CNw5.out QQw5.out (by omega) (by have := HC2.out; omega) ⟨fun h => (by cases h), fun h => absurd h HXB.out⟩ (fun h => by cases h))
    have d5 : (k == 5) = false := by simp [h5]
    by_cases h7 : k = 7
    ·subst h7
     have HEX : Hid (extraP (.mk 7 n f A len cap ps) = decide (65536 < n)) := hide rfl
     obtain ⟨w5, hw5, cnw5, qw5, kw5⟩ := HSET.out w4 _ _ _ true CNw4.out QQw4.out KKw4.out
     have Hw5 := hide hw5
     have CNw5 := hide cnw5
     have QQw5 := hide qw5
     have KKw5 := hide kw5
     clear hw5 cnw5 qw5 kw5
     go_upto_region 19 with fail
     rw [Hw5.out]
     clear a1 a2 a3 a4 a5 a6 a7 y0 y1
     obtain ⟨b1, b2, b3, b4, b5, b6, b7⟩ := CNw5.out
     go_wp2_with fail
     exact bodyPost_ret (v := .tuple #[]) (by simp [results, Try.results62, go_sem]) rfl (HFIN.out _ _ _ _ CNw5.out QQw5.out (by omega) (by have := HC2.out; omega) ⟨fun h => (by cases h), fun h => absurd h HXB.out⟩ (fun h => by cases h))
    have d7 : (k == 7) = false := by simp [h7]
    by_cases h9 : k = 9
    ·subst h9
     have HEX : Hid (extraP (.mk 9 n f A len cap ps) = decide (64 < packP (.mk 9 n f A len cap ps))) := hide rfl
     clear a1 a2 a3 a4 a5 a6 a7 y1
     obtain ⟨a1, a2, a3, a4, a5, a6, a7⟩ := CNw4.out
     clear a1 a2 a3 a4 a5 a6 a7
     have y3' := KKw4.out 3 _ rfl
     obtain ⟨b1, b2, b3, b4, b5, b6, b7⟩ := CNw4.out
     have hltw : W.heap.size < w4.heap.size := by rw [← Hw4.out]; simpa using hlt
     go_wp2_with fail
     clear b1 b2 b3 b4 b5 b6 b7 y3'
     go_loopw [6, 100] (fun v6 vi wr => ∃ j : Nat, j ≤ len ∧ vi = .int .i64 j ∧ v6 = .int .i64 ((ps.take j).foldl (fun s p => min (s + bitsL p) 1099511627776) (0 : Int)) ∧ Q w4 wr) (fun _ vi _ => len - (intOf vi).toNat)
     case atStart => exact ⟨0, by omega, by go_num, by simp, Q.refl _⟩
     case round =>
      obtain ⟨j, hj, rfl, rfl, hqj⟩ := hrel
      have HQJ := hide hqj
      by_cases hlt9 : j < len
      ·have hd1 : decide ((j : Int) < (len : Int)) = true := by simp; omega
       have hd0 : decide (j < len) = true := by simp; omega
       have hlti : (j : Int) < (len : Int) := by omega
       obtain ⟨b, o, m', x', y', Bq, l', d', qs, e, hb, hx, z0, z1, z2, z3⟩ := lay_at (HSL.out.up (HWB.out.trans (QQw4.out.trans hqj))) hlt9
       cases e
       obtain ⟨pq, hpe⟩ : ∃ pq, Lay.mk m' x' y' Bq l' d' qs = pq := ⟨_, rfl⟩
       have hpv : pq.v = .agg #[.int .i64 m', .int .i64 x', .bool y', .slice Bq l' d'] := by rw [← hpe]; rfl
       rw [hpe] at hx
       obtain ⟨wa, hwa⟩ : ∃ wa, wr.alloc (.cells #[.int .i64 m', .int .i64 x', .bool y', .slice Bq l' d'] 24) = wa := ⟨_, rfl⟩
       obtain ⟨hqa, hsa, hca⟩ := box1 hwa
       have t0 := hca 0 _ rfl
       have t1 := hca 1 _ rfl
       have t2 := hca 2 _ rfl
       have t3 := hca 3 _ rfl
       have HC := hide (bitsP_any (HALLR.out pq (List.mem_of_getElem? hx)) wa (HWB.out.trans (QQw4.out.trans (hqj.trans hqa))))
       unfold R1 at HC
       rw [hpv] at HC
       obtain ⟨hb0, hb1⟩ := packP_fold (ps.take j)
       have hnn := bits_nn pq
       have hst := fold_take (fun (s : Int) p => min (s + bitsL p) 1099511627776) (0 : Int) hx
       try dsimp only at hst
       obtain ⟨acc, hacc⟩ : ∃ acc, (ps.take j).foldl (fun s p => min (s + bitsL p) 1099511627776) (0 : Int) = acc := ⟨_, rfl⟩
       obtain ⟨bp, hbp⟩ : ∃ bp, bitsL pq = bp := ⟨_, rfl⟩
       rw [hacc] at hb0 hb1 hst ⊢
       rw [hbp] at hnn hst HC
       have HST2 := hide hst
       have HWA := hide hwa
       have HQA := hide (hqj.trans hqa)
       clear hacc hbp hst hpe hpv hx hwa hqa hsa hca hqj
       go_upto_region 16 with fail
       rw [HWA.out]
       clear z0 z1 z2 z3
       go_wp2_with fail
       refine HC.out.mono ?_
       rintro e w5 ⟨rfl, hq5⟩
       obtain ⟨w6, hw6⟩ : ∃ w6, w5.alloc (.cells #[.int .i64 acc, .int .i64 bp] 3) = w6 := ⟨_, rfl⟩
       obtain ⟨hq6, hs6, hc6⟩ := box1 hw6
       have HS6 := hide (sum2g w5.heap.size acc bp w6 (by omega) (hc6 0 _ rfl) (hc6 1 _ rfl) hb0 hnn)
       unfold R1 at HS6
       have HQ6 := hide (HQA.out.trans (hq5.trans hq6))
       have HW6 := hide hw6
       clear hq5 hq6 hw6 hc6 hs6 t0 t1 t2 t3
       go_wp2_with fail
       rw [HW6.out]
       refine HS6.out.mono ?_
       rintro e w7 ⟨rfl, hq7⟩
       have HQ7 := hide (HQ6.out.trans hq7)
       clear hq7
       go_wp2_with fail
       go_roundw
       case rel => exact ⟨j + 1, by omega, by go_num, by first | (rw [HST2.out]; done) | (rw [HST2.out]; congr 1; done) | (rw [HST2.out]; congr 1; omega), HQ7.out⟩
       case measure => simp [intOf] <;> omega
      ·have hd1 : decide ((j : Int) < (len : Int)) = false := by simp; omega
       have hd0 : decide (j < len) = false := by simp; omega
       obtain rfl : len = j := by omega
       have hta : ps.take len = ps := List.take_of_length_le (by have := HPL.out; omega)
       rw [hta]
       obtain ⟨acc, hacc⟩ : ∃ acc, ps.foldl (fun s p => min (s + bitsL p) 1099511627776) (0 : Int) = acc := ⟨_, rfl⟩
       have HACC := hide (show packP (.mk 9 n f A len cap ps) = acc from hacc)
       rw [hacc]
       have HCNJ := hide (CNw4.out.up hqj)
       have HQBJ := hide (QQw4.out.trans hqj)
       have HKJ := hide (fun (i : Nat) u (hu : (#[Value.int .i64 9, .int .i64 n, .bool f, .slice A len cap] : Array Value)[i]? = some u) => (hqj.facts.1 _ i hltw).trans (KKw4.out i u hu))
       clear hta hacc hqj
       obtain ⟨w8, hw8, cnw8, qw8, kw8⟩ := HSET.out wr _ _ _ true HCNJ.out HQBJ.out HKJ.out
       have Hw8 := hide hw8
       have CNw8 := hide cnw8
       have QQw8 := hide qw8
       have KKw8 := hide kw8
       clear hw8 cnw8 qw8 kw8
       obtain ⟨a1, a2, a3, a4, a5, a6, a7⟩ := HCNJ.out
       go_upto_region 19 with fail
       rw [Hw8.out]
       clear a1 a2 a3 a4 a5 a6 a7
       obtain ⟨b1, b2, b3, b4, b5, b6, b7⟩ := CNw8.out
       go_wp2_with fail
       exact bodyPost_ret (v := .tuple #[]) (by simp [results, Try.results62, go_sem]) rfl (HFIN.out _ _ _ _ CNw8.out QQw8.out (by omega) (by have := HC2.out; omega) ⟨fun h => (by cases h), fun h => absurd h HXB.out⟩ (fun h => by cases h))
    have d9 : (k == 9) = false := by simp [h9]
    have HEX : Hid (extraP (.mk k n f A len cap ps) = false) := hide (by show (if k = 2 then _ else if k = 5 then _ else if k = 7 then _ else if k = 9 then _ else false) = false; rw [if_neg h2, if_neg h5, if_neg h7, if_neg h9])
    clear h2 h5 h7 h9
    go_upto_region 19 with fail
    clear a1 a2 a3 a4 a5 a6 a7 y0 y1
    obtain ⟨b1, b2, b3, b4, b5, b6, b7⟩ := CNw4.out
    go_wp2_with fail
    exact bodyPost_ret (v := .tuple #[]) (by simp [results, Try.results62, go_sem]) rfl (HFIN.out _ _ _ _ CNw4.out QQw4.out (by omega) (by have := HC2.out; omega) ⟨fun h => (by cases h), fun h => absurd h HXB.out⟩ (fun h => by cases h))
   have d12i : decide ((12 : Int) < (len : Int)) = false := by simp; omega
   have d12 : decide (12 < len) = false := by simp [h12]
   clear h12
   obtain ⟨w4, hw4, cnw4, qw4, kw4⟩ := HSET.out w3 _ _ _ false H3.out HQ3.out HK3.out
   have Hw4 := hide hw4
   have CNw4 := hide cnw4
   have QQw4 := hide qw4
   have KKw4 := hide kw4
   clear hw4 cnw4 qw4 kw4
   go_upto_region 4 with fail
   rw [Hw4.out]
   clear a1 a2 a3 a4 a5 a6 a7 y3
   have y0 := KKw4.out 0 _ rfl
   have y1 := KKw4.out 1 _ rfl
   obtain ⟨a1, a2, a3, a4, a5, a6, a7⟩ := CNw4.out
   by_cases h2 : k = 2
   ·subst h2
    have HEX : Hid (extraP (.mk 2 n f A len cap ps) = decide (64 < n)) := hide rfl
    by_cases hx : 64 < n
    ·have dx : decide ((64 : Int) < n) = true := by simp [hx]
     have HXB := hide (show ¬ (false = false ∧ goodL c p (.mk 2 n f A len cap ps)) from fun h => by have h1 := (HG.out.1 h.2).2.2.1; rw [HBP.out, HEX.out, dx, Bool.or_true] at h1; cases h1)
     clear hx
     obtain ⟨w5, hw5, cnw5, qw5, kw5⟩ := HSET.out w4 _ _ _ true CNw4.out QQw4.out KKw4.out
     have Hw5 := hide hw5
     have CNw5 := hide cnw5
     have QQw5 := hide qw5
     have KKw5 := hide kw5
     clear hw5 cnw5 qw5 kw5
     go_upto_region 19 with fail
     rw [Hw5.out]
     clear a1 a2 a3 a4 a5 a6 a7 y0 y1
     obtain ⟨b1, b2, b3, b4, b5, b6, b7⟩ := CNw5.out
     go_wp2_with fail
     exact bodyPost_ret (v := .tuple #[]) (by simp [results, Try.results62, go_sem]) rfl (HFIN.out _ _ _ _ CNw5.out QQw5.out (by omega) (by have := HC2.out; omega) ⟨fun h => (by cases h), fun h => absurd h HXB.out⟩ (fun h => by cases h))
    ·have dx : decide ((64 : Int) < n) = false := by simp [hx]
     have HNB := hide (show bigP (.mk 2 n f A len cap ps) = false by rw [HBP.out, HEX.out, dx, d12]; rfl)
     clear hx
     obtain ⟨w5, hw5, cnw5, qw5, kw5⟩ := HSET.out w4 _ _ _ false CNw4.out QQw4.out KKw4.out
     have Hw5 := hide hw5
     have CNw5 := hide cnw5
     have QQw5 := hide qw5
     have KKw5 := hide kw5
     clear hw5 cnw5 qw5 kw5
     go_upto_region 19 with fail
     rw [Hw5.out]
     clear a1 a2 a3 a4 a5 a6 a7 y0 y1
     have y3' := KKw5.out 3 _ rfl
     obtain ⟨b1, b2, b3, b4, b5, b6, b7⟩ := CNw5.out
     have HI0 := hide (show LkI B w5 g c p ps 0 (c + 1) m false from ⟨QQw5.out, CNw5.out, by omega, by simp, ⟨fun _ => ⟨by simp; omega, fun q hq => by simp at hq⟩, fun _ => rfl⟩, fun _ => by simp⟩)
     go_wp2_with fail
     clear b1 b2 b3 b4 b5 b6 b7 y3'
     go_loopw [128] (fun vi wr => ∃ j : Nat, j ≤ len ∧ vi = .int .i64 j ∧ ∃ cj dj Lj, LkI B wr g c p ps j cj dj Lj) (fun vi _ => len - (intOf vi).toNat)
     case atStart => exact ⟨0, by omega, by go_num, _, _, _, HI0.out⟩
     case round =>
      obtain ⟨j, hj, rfl, cj, dj, Lj, hI⟩ := hrel
      have HI := hide hI
      by_cases hlt9 : j < len
      ·have hd1 : decide ((j : Int) < (len : Int)) = true := by simp; omega
       have hd0 : decide (j < len) = true := by simp; omega
       have hlti : (j : Int) < (len : Int) := by omega
       obtain ⟨b, o, m', x', y', Bq, l', d', qs, e, hb, hx, z0, z1, z2, z3⟩ := lay_at (HSL.out.up (HWB.out.trans hI.q)) hlt9
       cases e
       obtain ⟨pq, hpe⟩ : ∃ pq, Lay.mk m' x' y' Bq l' d' qs = pq := ⟨_, rfl⟩
       have hpv : pq.v = .agg #[.int .i64 m', .int .i64 x', .bool y', .slice Bq l' d'] := by rw [← hpe]; rfl
       rw [hpe] at hx
       obtain ⟨wa, hwa⟩ : ∃ wa, wr.alloc (.cells #[.int .i64 m', .int .i64 x', .bool y', .slice Bq l' d'] 24) = wa := ⟨_, rfl⟩
       obtain ⟨hqa, hsa, hca⟩ := box1 hwa
       have t0 := hca 0 _ rfl
       have t1 := hca 1 _ rfl
       have t2 := hca 2 _ rfl
       have t3 := hca 3 _ rfl
       have hcq : cj + pq.count ≤ 2000000 := by
        have h1 := HST.out (j + 1)
        have hs : ((ps.take (j + 1)).map Lay.count).sum = ((ps.take j).map Lay.count).sum + pq.count := by
         rw [List.take_add_one, hx, List.map_append, List.sum_append]
         simp
        have h2 := hI.hi
        have h3 := HC2.out
        omega
       have HC := hide (HIH.out pq (List.mem_of_getElem? hx) B wa g cj dj (p + 1) Lj HWB.out HBG.out (hI.q.trans hqa) (hI.cn.up hqa) (by have := hI.lo; omega) hcq (by omega) (by omega))
       rw [hpv] at HC
       have HX := hide hx
       have HWA := hide hwa
       clear hpe hpv hx hwa hqa hsa hca hcq hI
       go_upto_region 23 with fail
       rw [HWA.out]
       clear z0 z1 z2 z3
       go_wp2_with fail
       refine HC.out.mono ?_
       rintro e w5 hLQ
       have HS5 := hide (HI.out.step HX.out hLQ)
       obtain ⟨rfl, -⟩ := hLQ
       clear t0 t1 t2 t3
       go_wp2_with fail
       go_roundw
       case rel => exact ⟨j + 1, by omega, by go_num, HS5.out⟩
       case measure => simp [intOf] <;> omega
      ·have hd1 : decide ((j : Int) < (len : Int)) = false := by simp; omega
       have hd0 : decide (j < len) = false := by simp; omega
       obtain rfl : j = len := by omega
       have hta : ps.take j = ps := List.take_of_length_le (by have := HPL.out; omega)
       obtain ⟨i1, i2, i3, i4, i5, i6⟩ := hI
       rw [hta] at i4 i5 i6
       have HF5 := hide (HFIN.out wr cj dj Lj i2 i1 i3 i4 (by
        rw [i5, HG.out]
        constructor
        ·rintro ⟨e1, e2⟩
         exact ⟨by first | rfl | trivial, e1, by omega, HNB.out, e2⟩
        ·rintro ⟨-, e1, -, -, e2⟩
         exact ⟨e1, e2⟩) i6)
       clear hta i1 i2 i3 i4 i5 i6
       go_wp2_with fail
       exact bodyPost_end (v := .tuple #[]) (by simp [results, Try.results62, go_sem]) rfl HF5.out
   have d2 : (k == 2) = false := by simp [h2]
   by_cases h5 : k = 5
   ·subst h5
    have HEX : Hid (extraP (.mk 5 n f A len cap ps) = decide (1000 < n)) := hide rfl
    by_cases hx : 1000 < n
    ·have dx : decide ((1000 : Int) < n) = true := by simp [hx]
     have HXB := hide (show ¬ (false = false ∧ goodL c p (.mk 5 n f A len cap ps)) from fun h => by have h1 := (HG.out.1 h.2).2.2.1; rw [HBP.out, HEX.out, dx, Bool.or_true] at h1; cases h1)
     clear hx
     obtain ⟨w5, hw5, cnw5, qw5, kw5⟩ := HSET.out w4 _ _ _ true CNw4.out QQw4.out KKw4.out
     have Hw5 := hide hw5
     have CNw5 := hide cnw5
     have QQw5 := hide qw5
     have KKw5 := hide kw5
     clear hw5 cnw5 qw5 kw5
     go_upto_region 19 with fail
     rw [Hw5.out]
     clear a1 a2 a3 a4 a5 a6 a7 y0 y1
     obtain ⟨b1, b2, b3, b4, b5, b6, b7⟩ := CNw5.out
     go_wp2_with fail
     exact bodyPost_ret (v := .tuple #[]) (by simp [results, Try.results62, go_sem]) rfl (HFIN.out _ _ _ _ CNw5.out QQw5.out (by omega) (by have := HC2.out; omega) ⟨fun h => (by cases h), fun h => absurd h HXB.out⟩ (fun h => by cases h))
    ·have dx : decide ((1000 : Int) < n) = false := by simp [hx]
     have HNB := hide (show bigP (.mk 5 n f A len cap ps) = false by rw [HBP.out, HEX.out, dx, d12]; rfl)
     clear hx
     obtain ⟨w5, hw5, cnw5, qw5, kw5⟩ := HSET.out w4 _ _ _ false CNw4.out QQw4.out KKw4.out
     have Hw5 := hide hw5
     have CNw5 := hide cnw5
     have QQw5 := hide qw5
     have KKw5 := hide kw5
     clear hw5 cnw5 qw5 kw5
     go_upto_region 19 with fail
     rw [Hw5.out]
     clear a1 a2 a3 a4 a5 a6 a7 y0 y1
     have y3' := KKw5.out 3 _ rfl
     obtain ⟨b1, b2, b3, b4, b5, b6, b7⟩ := CNw5.out
     have HI0 := hide (show LkI B w5 g c p ps 0 (c + 1) m false from ⟨QQw5.out, CNw5.out, by omega, by simp, ⟨fun _ => ⟨by simp; omega, fun q hq => by simp at hq⟩, fun _ => rfl⟩, fun _ => by simp⟩)
     go_wp2_with fail
     clear b1 b2 b3 b4 b5 b6 b7 y3'
     go_loopw [128] (fun vi wr => ∃ j : Nat, j ≤ len ∧ vi = .int .i64 j ∧ ∃ cj dj Lj, LkI B wr g c p ps j cj dj Lj) (fun vi _ => len - (intOf vi).toNat)
     case atStart => exact ⟨0, by omega, by go_num, _, _, _, HI0.out⟩
     case round =>
      obtain ⟨j, hj, rfl, cj, dj, Lj, hI⟩ := hrel
      have HI := hide hI
      by_cases hlt9 : j < len
      ·have hd1 : decide ((j : Int) < (len : Int)) = true := by simp; omega
       have hd0 : decide (j < len) = true := by simp; omega
       have hlti : (j : Int) < (len : Int) := by omega
       obtain ⟨b, o, m', x', y', Bq, l', d', qs, e, hb, hx, z0, z1, z2, z3⟩ := lay_at (HSL.out.up (HWB.out.trans hI.q)) hlt9
       cases e
       obtain ⟨pq, hpe⟩ : ∃ pq, Lay.mk m' x' y' Bq l' d' qs = pq := ⟨_, rfl⟩
       have hpv : pq.v = .agg #[.int .i64 m', .int .i64 x', .bool y', .slice Bq l' d'] := by rw [← hpe]; rfl
       rw [hpe] at hx
       obtain ⟨wa, hwa⟩ : ∃ wa, wr.alloc (.cells #[.int .i64 m', .int .i64 x', .bool y', .slice Bq l' d'] 24) = wa := ⟨_, rfl⟩
       obtain ⟨hqa, hsa, hca⟩ := box1 hwa
       have t0 := hca 0 _ rfl
       have t1 := hca 1 _ rfl
       have t2 := hca 2 _ rfl
       have t3 := hca 3 _ rfl
       have hcq : cj + pq.count ≤ 2000000 := by
        have h1 := HST.out (j + 1)
        have hs : ((ps.take (j + 1)).map Lay.count).sum = ((ps.take j).map Lay.count).sum + pq.count := by
         rw [List.take_add_one, hx, List.map_append, List.sum_append]
         simp
        have h2 := hI.hi
        have h3 := HC2.out
        omega
       have HC := hide (HIH.out pq (List.mem_of_getElem? hx) B wa g cj dj (p + 1) Lj HWB.out HBG.out (hI.q.trans hqa) (hI.cn.up hqa) (by have := hI.lo; omega) hcq (by omega) (by omega))
       rw [hpv] at HC
       have HX := hide hx
       have HWA := hide hwa
       clear hpe hpv hx hwa hqa hsa hca hcq hI
       go_upto_region 23 with fail
       rw [HWA.out]
       clear z0 z1 z2 z3
       go_wp2_with fail
       refine HC.out.mono ?_
       rintro e w5 hLQ
       have HS5 := hide (HI.out.step HX.out hLQ)
       obtain ⟨rfl, -⟩ := hLQ
       clear t0 t1 t2 t3
       go_wp2_with fail
       go_roundw
       case rel => exact ⟨j + 1, by omega, by go_num, HS5.out⟩
       case measure => simp [intOf] <;> omega
      ·have hd1 : decide ((j : Int) < (len : Int)) = false := by simp; omega
       have hd0 : decide (j < len) = false := by simp; omega
       obtain rfl : j = len := by omega
       have hta : ps.take j = ps := List.take_of_length_le (by have := HPL.out; omega)
       obtain ⟨i1, i2, i3, i4, i5, i6⟩ := hI
       rw [hta] at i4 i5 i6
       have HF5 := hide (HFIN.out wr cj dj Lj i2 i1 i3 i4 (by
        rw [i5, HG.out]
        constructor
        ·rintro ⟨e1, e2⟩
         exact ⟨by first | rfl | trivial, e1, by omega, HNB.out, e2⟩
        ·rintro ⟨-, e1, -, -, e2⟩
         exact ⟨e1, e2⟩) i6)
       clear hta i1 i2 i3 i4 i5 i6
       go_wp2_with fail
       exact bodyPost_end (v := .tuple #[]) (by simp [results, Try.results62, go_sem]) rfl HF5.out
   have d5 : (k == 5) = false := by simp [h5]
   by_cases h7 : k = 7
   ·subst h7
    have HEX : Hid (extraP (.mk 7 n f A len cap ps) = decide (65536 < n)) := hide rfl
    by_cases hx : 65536 < n
    ·have dx : decide ((65536 : Int) < n) = true := by simp [hx]
     have HXB := hide (show ¬ (false = false ∧ goodL c p (.mk 7 n f A len cap ps)) from fun h => by have h1 := (HG.out.1 h.2).2.2.1; rw [HBP.out, HEX.out, dx, Bool.or_true] at h1; cases h1)
     clear hx
     obtain ⟨w5, hw5, cnw5, qw5, kw5⟩ := HSET.out w4 _ _ _ true CNw4.out QQw4.out KKw4.out
     have Hw5 := hide hw5
     have CNw5 := hide cnw5
     have QQw5 := hide qw5
     have KKw5 := hide kw5
     clear hw5 cnw5 qw5 kw5
     go_upto_region 19 with fail
     rw [Hw5.out]
     clear a1 a2 a3 a4 a5 a6 a7 y0 y1
     obtain ⟨b1, b2, b3, b4, b5, b6, b7⟩ := CNw5.out
     go_wp2_with fail
     exact bodyPost_ret (v := .tuple #[]) (by simp [results, Try.results62, go_sem]) rfl (HFIN.out _ _ _ _ CNw5.out QQw5.out (by omega) (by have := HC2.out; omega) ⟨fun h => (by cases h), fun h => absurd h HXB.out⟩ (fun h => by cases h))
    ·have dx : decide ((65536 : Int) < n) = false := by simp [hx]
     have HNB := hide (show bigP (.mk 7 n f A len cap ps) = false by rw [HBP.out, HEX.out, dx, d12]; rfl)
     clear hx
     obtain ⟨w5, hw5, cnw5, qw5, kw5⟩ := HSET.out w4 _ _ _ false CNw4.out QQw4.out KKw4.out
     have Hw5 := hide hw5
     have CNw5 := hide cnw5
     have QQw5 := hide qw5
     have KKw5 := hide kw5
     clear hw5 cnw5 qw5 kw5
     go_upto_region 19 with fail
     rw [Hw5.out]
     clear a1 a2 a3 a4 a5 a6 a7 y0 y1
     have y3' := KKw5.out 3 _ rfl
     obtain ⟨b1, b2, b3, b4, b5, b6, b7⟩ := CNw5.out
     have HI0 := hide (show LkI B w5 g c p ps 0 (c + 1) m false from ⟨QQw5.out, CNw5.out, by omega, by simp, ⟨fun _ => ⟨by simp; omega, fun q hq => by simp at hq⟩, fun _ => rfl⟩, fun _ => by simp⟩)
     go_wp2_with fail
     clear b1 b2 b3 b4 b5 b6 b7 y3'
     go_loopw [128] (fun vi wr => ∃ j : Nat, j ≤ len ∧ vi = .int .i64 j ∧ ∃ cj dj Lj, LkI B wr g c p ps j cj dj Lj) (fun vi _ => len - (intOf vi).toNat)
     case atStart => exact ⟨0, by omega, by go_num, _, _, _, HI0.out⟩
     case round =>
      obtain ⟨j, hj, rfl, cj, dj, Lj, hI⟩ := hrel
      have HI := hide hI
      by_cases hlt9 : j < len
      ·have hd1 : decide ((j : Int) < (len : Int)) = true := by simp; omega
       have hd0 : decide (j < len) = true := by simp; omega
       have hlti : (j : Int) < (len : Int) := by omega
       obtain ⟨b, o, m', x', y', Bq, l', d', qs, e, hb, hx, z0, z1, z2, z3⟩ := lay_at (HSL.out.up (HWB.out.trans hI.q)) hlt9
       cases e
       obtain ⟨pq, hpe⟩ : ∃ pq, Lay.mk m' x' y' Bq l' d' qs = pq := ⟨_, rfl⟩
       have hpv : pq.v = .agg #[.int .i64 m', .int .i64 x', .bool y', .slice Bq l' d'] := by rw [← hpe]; rfl
       rw [hpe] at hx
       obtain ⟨wa, hwa⟩ : ∃ wa, wr.alloc (.cells #[.int .i64 m', .int .i64 x', .bool y', .slice Bq l' d'] 24) = wa := ⟨_, rfl⟩
       obtain ⟨hqa, hsa, hca⟩ := box1 hwa
       have t0 := hca 0 _ rfl
       have t1 := hca 1 _ rfl
       have t2 := hca 2 _ rfl
       have t3 := hca 3 _ rfl
       have hcq : cj + pq.count ≤ 2000000 := by
        have h1 := HST.out (j + 1)
        have hs : ((ps.take (j + 1)).map Lay.count).sum = ((ps.take j).map Lay.count).sum + pq.count := by
         rw [List.take_add_one, hx, List.map_append, List.sum_append]
         simp
        have h2 := hI.hi
        have h3 := HC2.out
        omega
       have HC := hide (HIH.out pq (List.mem_of_getElem? hx) B wa g cj dj (p + 1) Lj HWB.out HBG.out (hI.q.trans hqa) (hI.cn.up hqa) (by have := hI.lo; omega) hcq (by omega) (by omega))
       rw [hpv] at HC
       have HX := hide hx
       have HWA := hide hwa
       clear hpe hpv hx hwa hqa hsa hca hcq hI
       go_upto_region 23 with fail
       rw [HWA.out]
       clear z0 z1 z2 z3
       go_wp2_with fail
       refine HC.out.mono ?_
       rintro e w5 hLQ
       have HS5 := hide (HI.out.step HX.out hLQ)
       obtain ⟨rfl, -⟩ := hLQ
       clear t0 t1 t2 t3
       go_wp2_with fail
       go_roundw
       case rel => exact ⟨j + 1, by omega, by go_num, HS5.out⟩
       case measure => simp [intOf] <;> omega
      ·have hd1 : decide ((j : Int) < (len : Int)) = false := by simp; omega
       have hd0 : decide (j < len) = false := by simp; omega
       obtain rfl : j = len := by omega
       have hta : ps.take j = ps := List.take_of_length_le (by have := HPL.out; omega)
       obtain ⟨i1, i2, i3, i4, i5, i6⟩ := hI
       rw [hta] at i4 i5 i6
       have HF5 := hide (HFIN.out wr cj dj Lj i2 i1 i3 i4 (by
        rw [i5, HG.out]
        constructor
        ·rintro ⟨e1, e2⟩
         exact ⟨by first | rfl | trivial, e1, by omega, HNB.out, e2⟩
        ·rintro ⟨-, e1, -, -, e2⟩
         exact ⟨e1, e2⟩) i6)
       clear hta i1 i2 i3 i4 i5 i6
       go_wp2_with fail
       exact bodyPost_end (v := .tuple #[]) (by simp [results, Try.results62, go_sem]) rfl HF5.out
   have d7 : (k == 7) = false := by simp [h7]
   by_cases h9 : k = 9
   ·subst h9
    have HEX : Hid (extraP (.mk 9 n f A len cap ps) = decide (64 < packP (.mk 9 n f A len cap ps))) := hide rfl
    clear a1 a2 a3 a4 a5 a6 a7 y1
    obtain ⟨a1, a2, a3, a4, a5, a6, a7⟩ := CNw4.out
    clear a1 a2 a3 a4 a5 a6 a7
    have y3' := KKw4.out 3 _ rfl
    obtain ⟨b1, b2, b3, b4, b5, b6, b7⟩ := CNw4.out
    have hltw : W.heap.size < w4.heap.size := by rw [← Hw4.out]; simpa using hlt
    go_wp2_with fail
    clear b1 b2 b3 b4 b5 b6 b7 y3'
    go_loopw [6, 100] (fun v6 vi wr => ∃ j : Nat, j ≤ len ∧ vi = .int .i64 j ∧ v6 = .int .i64 ((ps.take j).foldl (fun s p => min (s + bitsL p) 1099511627776) (0 : Int)) ∧ Q w4 wr) (fun _ vi _ => len - (intOf vi).toNat)
    case atStart => exact ⟨0, by omega, by go_num, by simp, Q.refl _⟩
    case round =>
     obtain ⟨j, hj, rfl, rfl, hqj⟩ := hrel
     have HQJ := hide hqj
     by_cases hlt9 : j < len
     ·have hd1 : decide ((j : Int) < (len : Int)) = true := by simp; omega
      have hd0 : decide (j < len) = true := by simp; omega
      have hlti : (j : Int) < (len : Int) := by omega
      obtain ⟨b, o, m', x', y', Bq, l', d', qs, e, hb, hx, z0, z1, z2, z3⟩ := lay_at (HSL.out.up (HWB.out.trans (QQw4.out.trans hqj))) hlt9
      cases e
      obtain ⟨pq, hpe⟩ : ∃ pq, Lay.mk m' x' y' Bq l' d' qs = pq := ⟨_, rfl⟩
      have hpv : pq.v = .agg #[.int .i64 m', .int .i64 x', .bool y', .slice Bq l' d'] := by rw [← hpe]; rfl
      rw [hpe] at hx
      obtain ⟨wa, hwa⟩ : ∃ wa, wr.alloc (.cells #[.int .i64 m', .int .i64 x', .bool y', .slice Bq l' d'] 24) = wa := ⟨_, rfl⟩
      obtain ⟨hqa, hsa, hca⟩ := box1 hwa
      have t0 := hca 0 _ rfl
      have t1 := hca 1 _ rfl
      have t2 := hca 2 _ rfl
      have t3 := hca 3 _ rfl
      have HC := hide (bitsP_any (HALLR.out pq (List.mem_of_getElem? hx)) wa (HWB.out.trans (QQw4.out.trans (hqj.trans hqa))))
      unfold R1 at HC
      rw [hpv] at HC
      obtain ⟨hb0, hb1⟩ := packP_fold (ps.take j)
      have hnn := bits_nn pq
      have hst := fold_take (fun (s : Int) p => min (s + bitsL p) 1099511627776) (0 : Int) hx
      try dsimp only at hst
      obtain ⟨acc, hacc⟩ : ∃ acc, (ps.take j).foldl (fun s p => min (s + bitsL p) 1099511627776) (0 : Int) = acc := ⟨_, rfl⟩
      obtain ⟨bp, hbp⟩ : ∃ bp, bitsL pq = bp := ⟨_, rfl⟩
      rw [hacc] at hb0 hb1 hst ⊢
      rw [hbp] at hnn hst HC
      have HST2 := hide hst
      have HWA := hide hwa
      have HQA := hide (hqj.trans hqa)
      clear hacc hbp hst hpe hpv hx hwa hqa hsa hca hqj
      go_upto_region 16 with fail
      rw [HWA.out]
      clear z0 z1 z2 z3
      go_wp2_with fail
      refine HC.out.mono ?_
      rintro e w5 ⟨rfl, hq5⟩
      obtain ⟨w6, hw6⟩ : ∃ w6, w5.alloc (.cells #[.int .i64 acc, .int .i64 bp] 3) = w6 := ⟨_, rfl⟩
      obtain ⟨hq6, hs6, hc6⟩ := box1 hw6
      have HS6 := hide (sum2g w5.heap.size acc bp w6 (by omega) (hc6 0 _ rfl) (hc6 1 _ rfl) hb0 hnn)
      unfold R1 at HS6
      have HQ6 := hide (HQA.out.trans (hq5.trans hq6))
      have HW6 := hide hw6
      clear hq5 hq6 hw6 hc6 hs6 t0 t1 t2 t3
      go_wp2_with fail
      rw [HW6.out]
      refine HS6.out.mono ?_
      rintro e w7 ⟨rfl, hq7⟩
      have HQ7 := hide (HQ6.out.trans hq7)
      clear hq7
      go_wp2_with fail
      go_roundw
      case rel => exact ⟨j + 1, by omega, by go_num, by first | (rw [HST2.out]; done) | (rw [HST2.out]; congr 1; done) | (rw [HST2.out]; congr 1; omega), HQ7.out⟩
      case measure => simp [intOf] <;> omega
     ·have hd1 : decide ((j : Int) < (len : Int)) = false := by simp; omega
      have hd0 : decide (j < len) = false := by simp; omega
      obtain rfl : len = j := by omega
      have hta : ps.take len = ps := List.take_of_length_le (by have := HPL.out; omega)
      rw [hta]
      obtain ⟨acc, hacc⟩ : ∃ acc, ps.foldl (fun s p => min (s + bitsL p) 1099511627776) (0 : Int) = acc := ⟨_, rfl⟩
      have HACC := hide (show packP (.mk 9 n f A len cap ps) = acc from hacc)
      rw [hacc]
      have HCNJ := hide (CNw4.out.up hqj)
      have HQBJ := hide (QQw4.out.trans hqj)
      have HKJ := hide (fun (i : Nat) u (hu : (#[Value.int .i64 9, .int .i64 n, .bool f, .slice A len cap] : Array Value)[i]? = some u) => (hqj.facts.1 _ i hltw).trans (KKw4.out i u hu))
      clear hta hacc hqj
      by_cases hx : 64 < acc
      ·have dx : decide ((64 : Int) < acc) = true := by simp [hx]
       have HXB := hide (show ¬ (false = false ∧ goodL c p (.mk 9 n f A len cap ps)) from fun h => by have h1 := (HG.out.1 h.2).2.2.1; rw [HBP.out, HEX.out, HACC.out, dx, Bool.or_true] at h1; cases h1)
       clear hx
       obtain ⟨w8, hw8, cnw8, qw8, kw8⟩ := HSET.out wr _ _ _ true HCNJ.out HQBJ.out HKJ.out
       have Hw8 := hide hw8
       have CNw8 := hide cnw8
       have QQw8 := hide qw8
       have KKw8 := hide kw8
       clear hw8 cnw8 qw8 kw8
       obtain ⟨a1, a2, a3, a4, a5, a6, a7⟩ := HCNJ.out
       go_upto_region 19 with fail
       rw [Hw8.out]
       clear a1 a2 a3 a4 a5 a6 a7
       obtain ⟨b1, b2, b3, b4, b5, b6, b7⟩ := CNw8.out
       go_wp2_with fail
       exact bodyPost_ret (v := .tuple #[]) (by simp [results, Try.results62, go_sem]) rfl (HFIN.out _ _ _ _ CNw8.out QQw8.out (by omega) (by have := HC2.out; omega) ⟨fun h => (by cases h), fun h => absurd h HXB.out⟩ (fun h => by cases h))
      ·have dx : decide ((64 : Int) < acc) = false := by simp [hx]
       have HNB := hide (show bigP (.mk 9 n f A len cap ps) = false by rw [HBP.out, HEX.out, HACC.out, dx, d12]; rfl)
       clear hx
       obtain ⟨w8, hw8, cnw8, qw8, kw8⟩ := HSET.out wr _ _ _ false HCNJ.out HQBJ.out HKJ.out
       have Hw8 := hide hw8
       have CNw8 := hide cnw8
       have QQw8 := hide qw8
       have KKw8 := hide kw8
       clear hw8 cnw8 qw8 kw8
       obtain ⟨a1, a2, a3, a4, a5, a6, a7⟩ := HCNJ.out
       go_upto_region 19 with fail
       rw [Hw8.out]
       clear a1 a2 a3 a4 a5 a6 a7
       have y3' := KKw8.out 3 _ rfl
       obtain ⟨b1, b2, b3, b4, b5, b6, b7⟩ := CNw8.out
       have HI0 := hide (show LkI B w8 g c p ps 0 (c + 1) m false from ⟨QQw8.out, CNw8.out, by omega, by simp, ⟨fun _ => ⟨by simp; omega, fun q hq => by simp at hq⟩, fun _ => rfl⟩, fun _ => by simp⟩)
       go_wp2_with fail
       clear b1 b2 b3 b4 b5 b6 b7 y3'
       go_loopw [128] (fun vi wr => ∃ j : Nat, j ≤ len ∧ vi = .int .i64 j ∧ ∃ cj dj Lj, LkI B wr g c p ps j cj dj Lj) (fun vi _ => len - (intOf vi).toNat)
       case atStart => exact ⟨0, by omega, by go_num, _, _, _, HI0.out⟩
       case round =>
        obtain ⟨j, hj, rfl, cj, dj, Lj, hI⟩ := hrel
        have HI := hide hI
        by_cases hlt9 : j < len
        ·have hd1 : decide ((j : Int) < (len : Int)) = true := by simp; omega
         have hd0 : decide (j < len) = true := by simp; omega
         have hlti : (j : Int) < (len : Int) := by omega
         obtain ⟨b, o, m', x', y', Bq, l', d', qs, e, hb, hx, z0, z1, z2, z3⟩ := lay_at (HSL.out.up (HWB.out.trans hI.q)) hlt9
         cases e
         obtain ⟨pq, hpe⟩ : ∃ pq, Lay.mk m' x' y' Bq l' d' qs = pq := ⟨_, rfl⟩
         have hpv : pq.v = .agg #[.int .i64 m', .int .i64 x', .bool y', .slice Bq l' d'] := by rw [← hpe]; rfl
         rw [hpe] at hx
         obtain ⟨wa, hwa⟩ : ∃ wa, wr.alloc (.cells #[.int .i64 m', .int .i64 x', .bool y', .slice Bq l' d'] 24) = wa := ⟨_, rfl⟩
         obtain ⟨hqa, hsa, hca⟩ := box1 hwa
         have t0 := hca 0 _ rfl
         have t1 := hca 1 _ rfl
         have t2 := hca 2 _ rfl
         have t3 := hca 3 _ rfl
         have hcq : cj + pq.count ≤ 2000000 := by
          have h1 := HST.out (j + 1)
          have hs : ((ps.take (j + 1)).map Lay.count).sum = ((ps.take j).map Lay.count).sum + pq.count := by
           rw [List.take_add_one, hx, List.map_append, List.sum_append]
           simp
          have h2 := hI.hi
          have h3 := HC2.out
          omega
         have HC := hide (HIH.out pq (List.mem_of_getElem? hx) B wa g cj dj (p + 1) Lj HWB.out HBG.out (hI.q.trans hqa) (hI.cn.up hqa) (by have := hI.lo; omega) hcq (by omega) (by omega))
         rw [hpv] at HC
         have HX := hide hx
         have HWA := hide hwa
         clear hpe hpv hx hwa hqa hsa hca hcq hI
         go_upto_region 23 with fail
         rw [HWA.out]
         clear z0 z1 z2 z3
         go_wp2_with fail
         refine HC.out.mono ?_
         rintro e w5 hLQ
         have HS5 := hide (HI.out.step HX.out hLQ)
         obtain ⟨rfl, -⟩ := hLQ
         clear t0 t1 t2 t3
         go_wp2_with fail
         go_roundw
         case rel => exact ⟨j + 1, by omega, by go_num, HS5.out⟩
         case measure => simp [intOf] <;> omega
        ·have hd1 : decide ((j : Int) < (len : Int)) = false := by simp; omega
         have hd0 : decide (j < len) = false := by simp; omega
         obtain rfl : j = len := by omega
         have hta : ps.take j = ps := List.take_of_length_le (by have := HPL.out; omega)
         obtain ⟨i1, i2, i3, i4, i5, i6⟩ := hI
         rw [hta] at i4 i5 i6
         have HF5 := hide (HFIN.out wr cj dj Lj i2 i1 i3 i4 (by
          rw [i5, HG.out]
          constructor
          ·rintro ⟨e1, e2⟩
           exact ⟨by first | rfl | trivial, e1, by omega, HNB.out, e2⟩
          ·rintro ⟨-, e1, -, -, e2⟩
           exact ⟨e1, e2⟩) i6)
         clear hta i1 i2 i3 i4 i5 i6
         go_wp2_with fail
         exact bodyPost_end (v := .tuple #[]) (by simp [results, Try.results62, go_sem]) rfl HF5.out
   have d9 : (k == 9) = false := by simp [h9]
   have HEX : Hid (extraP (.mk k n f A len cap ps) = false) := hide (by show (if k = 2 then _ else if k = 5 then _ else if k = 7 then _ else if k = 9 then _ else false) = false; rw [if_neg h2, if_neg h5, if_neg h7, if_neg h9])
   clear h2 h5 h7 h9
   have HNB := hide (show bigP (.mk k n f A len cap ps) = false by rw [HBP.out, HEX.out, d12]; rfl)
   go_upto_region 19 with fail
   clear a1 a2 a3 a4 a5 a6 a7 y0 y1
   have y3' := KKw4.out 3 _ rfl
   obtain ⟨b1, b2, b3, b4, b5, b6, b7⟩ := CNw4.out
   have HI0 := hide (show LkI B w4 g c p ps 0 (c + 1) m false from ⟨QQw4.out, CNw4.out, by omega, by simp, ⟨fun _ => ⟨by simp; omega, fun q hq => by simp at hq⟩, fun _ => rfl⟩, fun _ => by simp⟩)
   go_wp2_with fail
   clear b1 b2 b3 b4 b5 b6 b7 y3'
   go_loopw [128] (fun vi wr => ∃ j : Nat, j ≤ len ∧ vi = .int .i64 j ∧ ∃ cj dj Lj, LkI B wr g c p ps j cj dj Lj) (fun vi _ => len - (intOf vi).toNat)
   case atStart => exact ⟨0, by omega, by go_num, _, _, _, HI0.out⟩
   case round =>
    obtain ⟨j, hj, rfl, cj, dj, Lj, hI⟩ := hrel
    have HI := hide hI
    by_cases hlt9 : j < len
    ·have hd1 : decide ((j : Int) < (len : Int)) = true := by simp; omega
     have hd0 : decide (j < len) = true := by simp; omega
     have hlti : (j : Int) < (len : Int) := by omega
     obtain ⟨b, o, m', x', y', Bq, l', d', qs, e, hb, hx, z0, z1, z2, z3⟩ := lay_at (HSL.out.up (HWB.out.trans hI.q)) hlt9
     cases e
     obtain ⟨pq, hpe⟩ : ∃ pq, Lay.mk m' x' y' Bq l' d' qs = pq := ⟨_, rfl⟩
     have hpv : pq.v = .agg #[.int .i64 m', .int .i64 x', .bool y', .slice Bq l' d'] := by rw [← hpe]; rfl
     rw [hpe] at hx
     obtain ⟨wa, hwa⟩ : ∃ wa, wr.alloc (.cells #[.int .i64 m', .int .i64 x', .bool y', .slice Bq l' d'] 24) = wa := ⟨_, rfl⟩
     obtain ⟨hqa, hsa, hca⟩ := box1 hwa
     have t0 := hca 0 _ rfl
     have t1 := hca 1 _ rfl
     have t2 := hca 2 _ rfl
     have t3 := hca 3 _ rfl
     have hcq : cj + pq.count ≤ 2000000 := by
      have h1 := HST.out (j + 1)
      have hs : ((ps.take (j + 1)).map Lay.count).sum = ((ps.take j).map Lay.count).sum + pq.count := by
       rw [List.take_add_one, hx, List.map_append, List.sum_append]
       simp
      have h2 := hI.hi
      have h3 := HC2.out
      omega
     have HC := hide (HIH.out pq (List.mem_of_getElem? hx) B wa g cj dj (p + 1) Lj HWB.out HBG.out (hI.q.trans hqa) (hI.cn.up hqa) (by have := hI.lo; omega) hcq (by omega) (by omega))
     rw [hpv] at HC
     have HX := hide hx
     have HWA := hide hwa
     clear hpe hpv hx hwa hqa hsa hca hcq hI
     go_upto_region 23 with fail
     rw [HWA.out]
     clear z0 z1 z2 z3
     go_wp2_with fail
     refine HC.out.mono ?_
     rintro e w5 hLQ
     have HS5 := hide (HI.out.step HX.out hLQ)
     obtain ⟨rfl, -⟩ := hLQ
     clear t0 t1 t2 t3
     go_wp2_with fail
     go_roundw
     case rel => exact ⟨j + 1, by omega, by go_num, HS5.out⟩
     case measure => simp [intOf] <;> omega
    ·have hd1 : decide ((j : Int) < (len : Int)) = false := by simp; omega
     have hd0 : decide (j < len) = false := by simp; omega
     obtain rfl : j = len := by omega
     have hta : ps.take j = ps := List.take_of_length_le (by have := HPL.out; omega)
     obtain ⟨i1, i2, i3, i4, i5, i6⟩ := hI
     rw [hta] at i4 i5 i6
     have HF5 := hide (HFIN.out wr cj dj Lj i2 i1 i3 i4 (by
      rw [i5, HG.out]
      constructor
      ·rintro ⟨e1, e2⟩
       exact ⟨by first | rfl | trivial, e1, by omega, HNB.out, e2⟩
      ·rintro ⟨-, e1, -, -, e2⟩
       exact ⟨e1, e2⟩) i6)
     clear hta i1 i2 i3 i4 i5 i6
     go_wp2_with fail
     exact bodyPost_end (v := .tuple #[]) (by simp [results, Try.results62, go_sem]) rfl HF5.out
theorem fold_two (f : Lay → Int) (hf : ∀ p, 0 ≤ f p) : ∀ (ps : List Lay) (a b : Int), ((a = b ∧ 0 ≤ a ∧ a ≤ 64) ∨ (64 < a ∧ 64 < b)) →
  ((ps.foldl (fun s p => min (s + min (f p) 1000) 100000) a = ps.foldl (fun s p => min (s + f p) 1099511627776) b ∧ ps.foldl (fun s p => min (s + min (f p) 1000) 100000) a ≤ 64) ∨ (64 < ps.foldl (fun s p => min (s + min (f p) 1000) 100000) a ∧ 64 < ps.foldl (fun s p => min (s + f p) 1099511627776) b))
 | [], a, b, h => by
  rcases h with ⟨h1, h2, h3⟩ | h
  ·exact .inl ⟨h1, h3⟩
  ·exact .inr h
 | p :: r, a, b, h => by
  rw [List.foldl_cons, List.foldl_cons]
  have h0 := hf p
  refine fold_two f hf r _ _ ?_
  rcases h with ⟨rfl, h2, h3⟩ | ⟨h1, h2⟩
  ·by_cases hc : a + f p ≤ 64
   ·exact .inl ⟨by omega, by omega, by omega⟩
   ·exact .inr ⟨by omega, by omega⟩
  ·exact .inr ⟨by omega, by omega⟩
theorem pack_same (l : Lay) : decide (64 < packP l) = decide (64 < packR l) := by
 rcases fold_two bitsL bits_nn l.parts 0 0 (.inl ⟨rfl, by omega, by omega⟩) with ⟨h1, h2⟩ | ⟨h1, h2⟩
 ·unfold packP packR
  rw [h1]
 ·have e1 : 64 < packR l := h1
  have e2 : 64 < packP l := h2
  simp [e1, e2]
theorem bigP_bigL (l : Lay) (hn : l.n ≤ 9223372036854775807) : bigP l = bigL l := by
 unfold bigP bigL extraP mostL
 rw [pack_same]
 congr 1
 by_cases h2 : l.k = 2
 ·simp [h2]
 by_cases h5 : l.k = 5
 ·simp [h5]
 by_cases h7 : l.k = 7
 ·simp [h7]
 have hm : decide ((9223372036854775807 : Int) < l.n) = false := by simp; omega
 rw [if_neg h2, if_neg h5, if_neg h7, if_neg h2, if_neg h5, if_neg h7, hm]
 by_cases h9 : l.k = 9
 ·simp [h9]
 ·simp [h9]
theorem wf_n {w : World} {l : Lay} (h : LayR w l) : l.n ≤ 9223372036854775807 := by
 cases h with
 | @mk k n f A len cap ps h1 h2 _ _ _ _ =>
  have e2 : IntKind.i64.max = 9223372036854775807 := by decide
  have h3 : IntKind.i64.min ≤ n ∧ n ≤ IntKind.i64.max := by simpa [Lit.wf] using h2
  show n ≤ _
  omega
theorem any_big {w : World} {l : Lay} (h : LayR w l) : l.flat.any bigP = l.flat.any bigL := by
 have hall := flat_all h
 have key : ∀ (ls : List Lay), (∀ x ∈ ls, LayR w x) → ls.any bigP = ls.any bigL := fun ls hl => by
  induction ls with
  | nil => rfl
  | cons x r ih =>
   rw [List.any_cons, List.any_cons, bigP_bigL x (wf_n (hl x (List.mem_cons_self ..))), ih fun y hy => hl y (List.mem_cons_of_mem _ hy)]
 exact key _ hall
/-! the cells -/
def Lay.tc : Lay → Int
 | .mk k n _ _ _ _ ps =>
  let m := (ps.attach.map fun p => Lay.tc p.1).sum
  if k = 5 then max 0 n * m + 1 else m + 1
termination_by c => SizeOf.sizeOf c
decreasing_by
 have := List.sizeOf_lt_of_mem p.2
 simp
 omega
theorem tc_mk (k n : Int) (f : Bool) (A : Option Addr) (len cap : Nat) (ps : List Lay) : (Lay.mk k n f A len cap ps).tc = if k = 5 then max 0 n * (ps.map Lay.tc).sum + 1 else (ps.map Lay.tc).sum + 1 := by
 rw [Lay.tc, attach_map']
theorem sum_nn : ∀ {l : List Int}, (∀ x ∈ l, 0 ≤ x) → 0 ≤ l.sum
 | [], _ => by simp
 | x :: r, h => by
  rw [List.sum_cons]
  have := h x (List.mem_cons_self ..)
  have := sum_nn (l := r) fun y hy => h y (List.mem_cons_of_mem _ hy)
  omega
theorem tc_nn {w : World} {l : Lay} (h : LayR w l) : 1 ≤ l.tc := by
 induction h with
 | @mk k n f A len cap ps _ _ _ _ _ _ ih =>
  rw [tc_mk]
  have hs : 0 ≤ (ps.map Lay.tc).sum := sum_nn fun x hx => by
   obtain ⟨p, hp, rfl⟩ := List.mem_map.1 hx
   have := ih p hp
   omega
  split
  ·have : 0 ≤ max 0 n * (ps.map Lay.tc).sum := Int.mul_nonneg (by omega) hs
   omega
  ·omega
theorem fold_cap_sum (C : Int) (hC : 0 ≤ C) : ∀ (ls ts : List Int) (a t : Int), ls.length = ts.length → (∀ (i : Nat) (x y : Int), ls[i]? = some x → ts[i]? = some y → x = min y C ∧ 0 ≤ y) → a = min t C → 0 ≤ t → ls.foldl (fun s c => min (s + c) C) a = min (t + ts.sum) C
 | [], [], a, t, _, _, h, _ => by simpa using h
 | [], _ :: _, _, _, h, _, _, _ => by simp at h
 | _ :: _, [], _, _, h, _, _, _ => by simp at h
 | x :: r, y :: s, a, t, hl, hx, h, ht => by
  obtain ⟨h1, h2⟩ := hx 0 x y rfl rfl
  rw [List.foldl_cons, List.sum_cons, fold_cap_sum C hC r s (min (a + x) C) (t + y) (by simpa using hl) (fun i u v hu hv => hx (i + 1) u v (by simpa using hu) (by simpa using hv)) (by omega) (by omega)]
  congr 1
  omega
theorem map_cap {w : World} (C : Int) (g : Lay → Int) : ∀ (ps : List Lay), (∀ p ∈ ps, g p = min p.tc C ∧ 0 ≤ p.tc) → ∀ (i : Nat) (x y : Int), (ps.map g)[i]? = some x → (ps.map Lay.tc)[i]? = some y → x = min y C ∧ 0 ≤ y := fun ps h i x y hx hy => by
 rw [List.getElem?_map] at hx hy
 cases hp : ps[i]? with
 | none => rw [hp] at hx; cases hx
 | some p =>
  rw [hp] at hx hy
  injection hx with hx
  injection hy with hy
  subst hx
  subst hy
  exact h p (List.mem_of_getElem? hp)
theorem mul_cap (C n s : Int) (hC : 0 ≤ C) (hn : 0 ≤ n) (hs : 0 ≤ s) : min (n * min s C + 1) C = min (n * s + 1) C := by
 by_cases h0 : n = 0
 ·subst h0; simp
 ·by_cases h : s ≤ C
  ·rw [Int.min_eq_left h]
  ·have h1 : min s C = C := by omega
   rw [h1]
   have h2 : C ≤ n * C := by
    calc C = 1 * C := by omega
     _ ≤ n * C := Int.mul_le_mul_of_nonneg_right (by omega) hC
   have h3 : C ≤ n * s := by
    calc C ≤ n * C := h2
     _ ≤ n * s := Int.mul_le_mul_of_nonneg_left (by omega) hn
   omega
theorem cells_tc {w : World} {l : Lay} (h : LayR w l) : l.cells = min l.tc 100000 := by
 induction h with
 | @mk k n f A len cap ps a1 a2 a3 a4 a5 a6 ih =>
  rw [cells_mk, tc_mk]
  have hnn : ∀ p ∈ ps, 0 ≤ p.tc := fun p hp => by have := tc_nn (a6 p hp); omega
  have hs : 0 ≤ (ps.map Lay.tc).sum := sum_nn fun x hx => by
   obtain ⟨p, hp, rfl⟩ := List.mem_map.1 hx
   exact hnn p hp
  have hf := fold_cap_sum 100000 (by omega) (ps.map Lay.cells) (ps.map Lay.tc) 0 0 (by simp) (map_cap (w := w) 100000 Lay.cells ps fun p hp => ⟨ih p hp, hnn p hp⟩) (by omega) (by omega)
  rw [Int.zero_add] at hf
  rw [hf]
  obtain ⟨s, hs9⟩ : ∃ s, (ps.map Lay.tc).sum = s := ⟨_, rfl⟩
  rw [hs9] at hs ⊢
  split
  ·have e1 : max n 0 = max 0 n := by omega
   rw [e1]
   by_cases hn : max 0 n ≤ 100000
   ·rw [Int.min_eq_left hn]
    exact mul_cap 100000 (max 0 n) s (by omega) (by omega) hs
   ·have e2 : min (max 0 n) 100000 = 100000 := by omega
    rw [e2]
    by_cases h0 : s = 0
    ·subst h0
     rw [Int.mul_zero]
     rfl
    ·have h1 : (100000 : Int) ≤ 100000 * min s 100000 := by
      have : 1 ≤ min s 100000 := by omega
      omega
     have h2 : (100000 : Int) ≤ max 0 n * s := by
      calc (100000 : Int) ≤ max 0 n := by omega
       _ = max 0 n * 1 := by omega
       _ ≤ max 0 n * s := Int.mul_le_mul_of_nonneg_left (by omega) (by omega)
     omega
  ·omega
theorem cellsP_tc {w : World} {l : Lay} (h : LayR w l) : l.cellsP = min l.tc 1099511627776 := by
 induction h with
 | @mk k n f A len cap ps a1 a2 a3 a4 a5 a6 ih =>
  rw [cellsP_mk, tc_mk]
  have hnn : ∀ p ∈ ps, 0 ≤ p.tc := fun p hp => by have := tc_nn (a6 p hp); omega
  have hs : 0 ≤ (ps.map Lay.tc).sum := sum_nn fun x hx => by
   obtain ⟨p, hp, rfl⟩ := List.mem_map.1 hx
   exact hnn p hp
  have hf := fold_cap_sum 1099511627776 (by omega) (ps.map Lay.cellsP) (ps.map Lay.tc) 0 0 (by simp) (map_cap (w := w) 1099511627776 Lay.cellsP ps fun p hp => ⟨ih p hp, hnn p hp⟩) (by omega) (by omega)
  rw [Int.zero_add] at hf
  rw [hf]
  obtain ⟨s, hs9⟩ : ∃ s, (ps.map Lay.tc).sum = s := ⟨_, rfl⟩
  rw [hs9] at hs ⊢
  split
  ·have := mul_cap 1099511627776 (max 0 n) s (by omega) (by omega) hs
   rw [Int.add_comm 1]
   exact this
  ·omega
theorem cells_same {w : World} {l : Lay} (h : LayR w l) : (4096 < l.cellsP) ↔ (4096 < l.cells) := by
 rw [cells_tc h, cellsP_tc h]
 omega
theorem valid_same {w : World} {l : Lay} (h : LayR w l) : ((¬ goodL 0 1 l ∨ 4096 < l.cellsP) → validL l = 3) ∧ (goodL 0 1 l → ¬ 4096 < l.cellsP → validL l = if rAll l = true then 0 else 1) := by
 unfold validL goodL rAll
 rw [cells_same h, any_big h]
 refine ⟨fun hb => ?_, fun ⟨h1, h2, h3⟩ h4 => ?_⟩
 ·by_cases h1 : 60 < l.count ∨ 5 < l.deep ∨ 4096 < l.cells
  ·rw [if_pos h1]
  ·rw [if_neg h1]
   by_cases h2 : l.flat.any bigL = true
   ·rw [if_pos h2]
   ·have h3 : l.flat.any bigL = false := by simpa using h2
    rcases hb with hb | hb
    ·exact absurd ⟨by omega, by omega, h3⟩ hb
    ·exact absurd (.inr (.inr hb)) h1
 ·rw [if_neg (by omega), if_neg (show ¬ l.flat.any bigL = true by rw [h3]; decide)]
theorem good_n5 {l : Lay} (h : goodL 0 1 l) : ∀ x ∈ l.flat, x.k = 5 → x.n ≤ 1000 := fun x hx hk => by
 have h1 := h.2.2
 rw [List.any_eq_false] at h1
 have h2 := h1 x hx
 unfold bigP extraP at h2
 rw [hk] at h2
 simp at h2
 omega
theorem Validate_any {w : World} {l : Lay} (h : LayR w l) (hct : l.count ≤ 1048576) : ∀ W, Q w W → Calls Try.prog 36 #[l.v] W (R1 W (.int .i64 (validL l))) := by
 intro W hqW
 unfold R1
 obtain ⟨hv1, hv2⟩ := valid_same h
 have HV1 := hide hv1
 have HV2 := hide hv2
 have HCE := hide (fun (hg : goodL 0 1 l) W (hW : Q w W) => cellsP_any h (good_n5 hg) W hW)
 have HRI := hide (fun W (hW : Q w W) => isRight_any h W hW)
 have HLK := hide (fun (B W : World) (g : Nat) (a1 : Q w B) (a2 : B.heap.size ≤ g) (a3 : Q B W) (a4 : CnL W g 0 0 false) => look_any h B W g 0 0 1 false a1 a2 a3 a4 (by omega) (by omega) (by omega) (by omega))
 unfold R1 at HCE HRI
 obtain ⟨l0, hl0⟩ : ∃ l0, l = l0 := ⟨_, rfl⟩
 rw [hl0] at HV1 HV2 HCE HRI HLK ⊢
 obtain ⟨ce, hce⟩ : ∃ ce, l0.cellsP = ce := ⟨_, rfl⟩
 obtain ⟨ra, hra⟩ : ∃ ra, rAll l0 = ra := ⟨_, rfl⟩
 rw [hce] at HCE HV1 HV2
 rw [hra] at HRI HV2
 have HQW := hide hqW
 obtain ⟨k, n, f, A, len, cap, ps⟩ := l
 have hv : l0.v = .agg #[.int .i64 k, .int .i64 n, .bool f, .slice A len cap] := by rw [← hl0]; rfl
 rw [hv] at HCE HRI HLK ⊢
 obtain ⟨w1, hw1⟩ : ∃ w1, W.alloc (.cells #[.int .i64 k, .int .i64 n, .bool f, .slice A len cap] 24) = w1 := ⟨_, rfl⟩
 obtain ⟨hq1, hs1, hc⟩ := box1 hw1
 obtain ⟨w2, hw2⟩ : ∃ w2, w1.alloc (.cells #[.int .i64 0, .int .i64 0, .bool false] 98) = w2 := ⟨_, rfl⟩
 obtain ⟨hq2, hs2, hc2⟩ := box1 hw2
 have hlt : W.heap.size < w1.heap.size := by omega
 have K0 := hide (show w1.cell? ⟨W.heap.size, 0, none⟩ = some (.int .i64 k) from hc 0 _ rfl)
 have K1 := hide (show w1.cell? ⟨W.heap.size, 1, none⟩ = some (.int .i64 n) from hc 1 _ rfl)
 have K2 := hide (show w1.cell? ⟨W.heap.size, 2, none⟩ = some (.bool f) from hc 2 _ rfl)
 have K3 := hide (show w1.cell? ⟨W.heap.size, 3, none⟩ = some (.slice A len cap) from hc 3 _ rfl)
 have KA : Hid (∀ W', Q w1 W' → W'.cell? ⟨W.heap.size, 0, none⟩ = some (.int .i64 k) ∧ W'.cell? ⟨W.heap.size, 1, none⟩ = some (.int .i64 n) ∧ W'.cell? ⟨W.heap.size, 2, none⟩ = some (.bool f) ∧ W'.cell? ⟨W.heap.size, 3, none⟩ = some (.slice A len cap)) := hide fun W' h => ⟨(h.facts.1 _ 0 hlt).trans K0.out, (h.facts.1 _ 1 hlt).trans K1.out, (h.facts.1 _ 2 hlt).trans K2.out, (h.facts.1 _ 3 hlt).trans K3.out⟩
 have hcn : CnL w2 w1.heap.size 0 0 false := ⟨by omega, hc2 0 _ rfl, hc2 1 _ rfl, hc2 2 _ rfl, by rw [← hw2]; simp, by rw [← hw2]; simp, by rw [← hw2]; simp⟩
 have HL := hide (HLK.out w1 w2 w1.heap.size (HQW.out.trans hq1) (Nat.le_refl _) hq2 hcn)
 rw [hs1] at HL
 have HW1 := hide hw1
 have HW2 := hide hw2
 have HQ1 := hide hq1
 obtain ⟨k0, k1, k2, k3⟩ := KA.out w2 hq2
 clear h hct hqW hv1 hv2 hl0 hce hra hv hw1 hw2 hc hc2 hcn hq1 hq2 HLK
 go_enter Try.func36, Try.ntmps36
 go_upto_region 1 with fail
 rw [HW1.out]
 go_upto_region 2 with fail
 rw [HW2.out]
 go_wp2_with fail
 refine HL.out.mono ?_
 rintro e w3 ⟨rfl, hq3, c', d', L', hcn, -, -, hL, -⟩
 obtain ⟨a1, a2, a3, a4, a5, a6, a7⟩ := hcn
 clear k0 k1 k2 k3 a2 a3 a5 a6 a7
 have HLL := hide hL
 have HQ3 := hide hq3
 clear hL
 cases L' with
 | true =>
  have HV := hide (HV1.out (.inl fun hg => by have := HLL.out.2 ⟨rfl, hg⟩; cases this))
  clear hq3
  go_wp2_with fail
  go_ret
  exact ⟨by rw [HV.out]; rfl, HQ1.out.trans HQ3.out⟩
 | false =>
  have hg : goodL 0 1 l0 := (HLL.out.1 rfl).2
  obtain ⟨k0, k1, k2, k3⟩ := KA.out w3 hq3
  have HC3 := hide (HCE.out hg w3 (HQW.out.trans (HQ1.out.trans hq3)))
  have HG := hide hg
  clear hq3 hg
  go_wp2_with fail
  refine HC3.out.mono ?_
  rintro e w4 ⟨rfl, hq4⟩
  have HQ4 := hide (HQ3.out.trans hq4)
  clear k0 k1 k2 k3 a4
  by_cases hce : 4096 < ce
  ·have dc : decide ((4096 : Int) < ce) = true := by simp [hce]
   have HV := hide (HV1.out (.inr hce))
   clear hce hq4
   go_wp2_with fail
   go_ret
   exact ⟨by rw [HV.out]; rfl, HQ1.out.trans HQ4.out⟩
  ·have dc : decide ((4096 : Int) < ce) = false := by simp [hce]
   have HV := hide (HV2.out HG.out (by omega))
   obtain ⟨k0, k1, k2, k3⟩ := KA.out w4 HQ4.out
   clear hce hq4
   go_wp2_with fail
   refine (HRI.out w4 (HQW.out.trans (HQ1.out.trans HQ4.out))).mono ?_
   rintro e w5 ⟨rfl, hq5⟩
   clear k0 k1 k2 k3
   cases ra with
   | true =>
    go_wp2_with fail
    go_ret
    exact ⟨by rw [HV.out]; rfl, HQ1.out.trans (HQ4.out.trans hq5)⟩
   | false =>
    go_wp2_with fail
    go_ret
    exact ⟨by rw [HV.out]; rfl, HQ1.out.trans (HQ4.out.trans hq5)⟩
def upI (n a : Int) : Int := (n + a - 1) / a * a
def whB (b : Int) : Int := if b ≤ 8 then 1 else if b ≤ 16 then 2 else if b ≤ 32 then 4 else 8
abbrev Rm := Int × Int
def stepS (s r : Rm) : Rm := (upI s.1 r.2 + r.1, max s.2 r.2)
def standR (rs : List Rm) : Rm := rs.foldl stepS (0, 1)
def stepU (s r : Rm) : Rm := (max s.1 r.1, max s.2 r.2)
def roomR (w k n pk : Int) (rs : List Rm) : Rm :=
 if k = 1 then (1, 1) else if k = 2 then (whB n, min (whB n) w) else if k = 3 then (w, w)
 else if k = 4 then (upI ((rs.headD (0, 1)).1 + 1) (rs.headD (0, 1)).2, (rs.headD (0, 1)).2)
 else if k = 5 then (n * (rs.headD (0, 1)).1, (rs.headD (0, 1)).2)
 else if k = 6 then (upI (standR rs).1 (standR rs).2, (standR rs).2)
 else if k = 7 then (if n ≤ 256 then (1, 1) else (2, min 2 w))
 else if k = 8 then (upI ((rs.foldl stepU (0, 1)).1 + 1) (rs.foldl stepU (0, 1)).2, (rs.foldl stepU (0, 1)).2)
 else if k = 9 then (if pk = 0 then (0, 1) else (whB pk, min (whB pk) w))
 else (0, 1)
def Lay.room (w : Int) : Lay → Rm
 | .mk k n f A len cap ps => roomR w k n (packR (.mk k n f A len cap ps)) (ps.attach.map fun p => Lay.room w p.1)
termination_by c => SizeOf.sizeOf c
decreasing_by
 have := List.sizeOf_lt_of_mem p.2
 simp
 omega
theorem room_mk (w k n : Int) (f : Bool) (A : Option Addr) (len cap : Nat) (ps : List Lay) : (Lay.mk k n f A len cap ps).room w = roomR w k n (packR (.mk k n f A len cap ps)) (ps.map (Lay.room w)) := by
 rw [Lay.room, attach_map']
def isA (a : Int) : Prop := a = 1 ∨ a = 2 ∨ a = 4 ∨ a = 8
theorem isA.max {a b : Int} (h : isA a) (h2 : isA b) : isA (max a b) := by
 unfold isA at *
 omega
theorem isA.up {a n : Int} (h : isA a) (hn : 0 ≤ n) : n ≤ upI n a ∧ upI n a ≤ n + a - 1 ∧ 0 ≤ upI n a := by
 unfold isA at h
 unfold upI
 rcases h with rfl | rfl | rfl | rfl <;> omega
theorem isA.one : isA 1 := .inl rfl
theorem whB_isA (b : Int) : isA (whB b) := by
 unfold whB isA
 split
 ·simp
 ·split
  ·simp
  ·split <;> simp
theorem isA.min {a w : Int} (h : isA a) (hw : w = 2 ∨ w = 4 ∨ w = 8) : isA (min a w) := by
 unfold isA at *
 omega
structure RmOk (r : Rm) (t : Int) : Prop where
 al : isA r.2
 lo : 0 ≤ r.1
 hi : r.1 ≤ 16 * t - 8
theorem stand_ok : ∀ (rs : List Rm) (ts : List Int) (s : Rm) (t : Int), rs.length = ts.length → (∀ (i : Nat) (r : Rm) (x : Int), rs[i]? = some r → ts[i]? = some x → RmOk r x) → isA s.2 → 0 ≤ s.1 → s.1 ≤ 16 * t → isA (rs.foldl stepS s).2 ∧ 0 ≤ (rs.foldl stepS s).1 ∧ (rs.foldl stepS s).1 ≤ 16 * (t + ts.sum)
 | [], [], s, t, _, _, h1, h2, h3 => by simpa using ⟨h1, h2, h3⟩
 | [], _ :: _, _, _, h, _, _, _, _ => by simp at h
 | _ :: _, [], _, _, h, _, _, _, _ => by simp at h
 | r :: rs, x :: ts, s, t, hl, hr, h1, h2, h3 => by
  obtain ⟨a1, a2, a3⟩ := hr 0 r x rfl rfl
  obtain ⟨b1, b2, b3⟩ := a1.up h2
  have h8 : r.2 ≤ 8 := by have := a1; unfold isA at this; omega
  rw [List.foldl_cons, List.sum_cons]
  have ih := stand_ok rs ts (stepS s r) (t + x) (by simpa using hl) (fun i u v hu hv => hr (i + 1) u v (by simpa using hu) (by simpa using hv)) (h1.max a1) (by unfold stepS; dsimp only; omega) (by unfold stepS; dsimp only; omega)
  refine ⟨ih.1, ih.2.1, ?_⟩
  have := ih.2.2
  omega
theorem union_ok : ∀ (rs : List Rm) (ts : List Int) (s : Rm) (t : Int), rs.length = ts.length → (∀ (i : Nat) (r : Rm) (x : Int), rs[i]? = some r → ts[i]? = some x → RmOk r x) → isA s.2 → 0 ≤ s.1 → s.1 ≤ 16 * t → 0 ≤ t → (∀ x ∈ ts, 0 ≤ x) → isA (rs.foldl stepU s).2 ∧ 0 ≤ (rs.foldl stepU s).1 ∧ (rs.foldl stepU s).1 ≤ 16 * (t + ts.sum)
 | [], [], s, t, _, _, h1, h2, h3, _, _ => by simpa using ⟨h1, h2, h3⟩
 | [], _ :: _, _, _, h, _, _, _, _, _, _ => by simp at h
 | _ :: _, [], _, _, h, _, _, _, _, _, _ => by simp at h
 | r :: rs, x :: ts, s, t, hl, hr, h1, h2, h3, h4, h5 => by
  obtain ⟨a1, a2, a3⟩ := hr 0 r x rfl rfl
  have hx := h5 x (List.mem_cons_self ..)
  rw [List.foldl_cons, List.sum_cons]
  have ih := union_ok rs ts (stepU s r) (t + x) (by simpa using hl) (fun i u v hu hv => hr (i + 1) u v (by simpa using hu) (by simpa using hv)) (h1.max a1) (by unfold stepU; dsimp only; omega) (by unfold stepU; dsimp only; omega) (by omega) (fun y hy => h5 y (List.mem_cons_of_mem _ hy))
  refine ⟨ih.1, ih.2.1, ?_⟩
  have := ih.2.2
  omega
structure VL (l : Lay) : Prop where
 right : l.flat.all rightL = true
 big : l.flat.any bigL = false
theorem VL.part {l p : Lay} (h : VL l) (hp : p ∈ l.parts) : VL p := by
 obtain ⟨h1, h2⟩ := h
 rw [List.all_eq_true] at h1
 rw [List.any_eq_false] at h2
 refine ⟨?_, ?_⟩
 ·rw [List.all_eq_true]
  exact fun x hx => h1 x (part_flat hp hx)
 ·rw [List.any_eq_false]
  exact fun x hx => h2 x (part_flat hp hx)
theorem VL.self {l : Lay} (h : VL l) : rightL l = true ∧ bigL l = false := by
 obtain ⟨h1, h2⟩ := h
 rw [List.all_eq_true] at h1
 rw [List.any_eq_false] at h2
 exact ⟨h1 l (self_flat l), by simpa using h2 l (self_flat l)⟩
theorem valid_VL {l : Lay} (h : validL l = 0) : VL l ∧ l.count ≤ 60 ∧ l.deep ≤ 5 ∧ l.cells ≤ 4096 := by
 unfold validL at h
 split at h
 ·cases h
 ·rename_i h1
  split at h
  ·cases h
  ·rename_i h2
   split at h
   ·rename_i h3
    exact ⟨⟨h3, by simpa using h2⟩, by omega, by omega, by omega⟩
   ·cases h
theorem VL.kind {k n : Int} {f : Bool} {A : Option Addr} {len cap : Nat} {ps : List Lay} (h : VL (.mk k n f A len cap ps)) : 0 ≤ k ∧ k ≤ 9 ∧ numL k ps.length = true ∧ restL k n ps = true := by
 have h1 := h.self.1
 rw [right_parts] at h1
 simp only [Bool.and_eq_true, decide_eq_true_eq] at h1
 exact ⟨h1.1.1, h1.1.2, h1.2.1, h1.2.2.2⟩
theorem room_ok {w : World} {l : Lay} (h : LayR w l) (wd : Int) (hw : wd = 2 ∨ wd = 4 ∨ wd = 8) : VL l → RmOk (l.room wd) l.tc := by
 induction h with
 | @mk k n f A len cap ps a1 a2 a3 a4 a5 a6 ih =>
  intro hv
  obtain ⟨hk0, hk9, hnum, hrest⟩ := hv.kind
  have hrs : ∀ (i : Nat) (r : Rm) (x : Int), (ps.map (Lay.room wd))[i]? = some r → (ps.map Lay.tc)[i]? = some x → RmOk r x := fun i r x hr hx => by
   rw [List.getElem?_map] at hr hx
   cases hp : ps[i]? with
   | none => rw [hp] at hr; cases hr
   | some p =>
    rw [hp] at hr hx
    injection hr with hr
    injection hx with hx
    subst hr
    subst hx
    have hm := List.mem_of_getElem? hp
    exact ih p hm (hv.part hm)
  have htn : ∀ x ∈ ps.map Lay.tc, 0 ≤ x := fun x hx => by
   obtain ⟨p, hp, rfl⟩ := List.mem_map.1 hx
   have := tc_nn (a6 p hp)
   omega
  have hs := sum_nn htn
  have htc := tc_mk k n f A len cap ps
  have h1 := tc_nn (l := .mk k n f A len cap ps) (.mk a1 a2 a3 a4 a5 a6)
  rw [room_mk]
  obtain ⟨T, hT⟩ : ∃ T, (Lay.mk k n f A len cap ps).tc = T := ⟨_, rfl⟩
  rw [hT] at htc h1 ⊢
  obtain ⟨S, hS⟩ : ∃ S, (ps.map Lay.tc).sum = S := ⟨_, rfl⟩
  rw [hS] at htc hs
  have hst := stand_ok (ps.map (Lay.room wd)) (ps.map Lay.tc) (0, 1) 0 (by simp) hrs isA.one (by simp) (by simp)
  have hun := union_ok (ps.map (Lay.room wd)) (ps.map Lay.tc) (0, 1) 0 (by simp) hrs isA.one (by simp) (by simp) (by simp) htn
  rw [hS, Int.zero_add] at hst hun
  have hwA : isA wd := by unfold isA; omega
  have hb8 : ∀ b, whB b ≤ 8 ∧ 1 ≤ whB b := fun b => by have := whB_isA b; unfold isA at this; omega
  unfold roomR
  by_cases e1 : k = 1
  ·rw [if_pos e1]; exact ⟨isA.one, by simp, by dsimp only; omega⟩
  rw [if_neg e1]
  by_cases e2 : k = 2
  ·rw [if_pos e2]; have := hb8 n; exact ⟨(whB_isA n).min hw, by dsimp only; omega, by dsimp only; omega⟩
  rw [if_neg e2]
  by_cases e3 : k = 3
  ·rw [if_pos e3]; exact ⟨hwA, by dsimp only; omega, by dsimp only; omega⟩
  rw [if_neg e3]
  have hone : k = 4 ∨ k = 5 → ∃ p, ps = [p] := fun h => by
   unfold numL at hnum
   rw [if_pos h, decide_eq_true_eq, List.length_eq_one_iff] at hnum
   exact hnum
  by_cases e4 : k = 4
  ·rw [if_pos e4]
   obtain ⟨p, rfl⟩ := hone (.inl e4)
   obtain ⟨b1, b2, b3⟩ := hrs 0 _ _ rfl rfl
   simp only [List.map_cons, List.map_nil, List.headD_cons] at b1 b2 b3 ⊢
   obtain ⟨c1, c2, c3⟩ := b1.up (n := (Lay.room wd p).1 + 1) (by omega)
   have h8 : (Lay.room wd p).2 ≤ 8 := by have := b1; unfold isA at this; omega
   rw [if_neg (by omega)] at htc
   have hSp : S = p.tc := by rw [← hS]; simp
   exact ⟨b1, c3, by dsimp only; omega⟩
  rw [if_neg e4]
  by_cases e5 : k = 5
  ·rw [if_pos e5]
   obtain ⟨p, rfl⟩ := hone (.inr e5)
   obtain ⟨b1, b2, b3⟩ := hrs 0 _ _ rfl rfl
   simp only [List.map_cons, List.map_nil, List.headD_cons] at b1 b2 b3 ⊢
   have hn0 : 0 ≤ n := by
    unfold restL at hrest
    rw [if_neg (by omega), if_pos e5, decide_eq_true_eq] at hrest
    exact hrest
   rw [if_pos e5] at htc
   have hSp : S = p.tc := by rw [← hS]; simp
   have hm : max 0 n = n := by omega
   rw [hm] at htc
   have c1 : 0 ≤ n * (Lay.room wd p).1 := Int.mul_nonneg hn0 b2
   have c2 : n * (Lay.room wd p).1 ≤ n * (16 * p.tc) := Int.mul_le_mul_of_nonneg_left (by omega) hn0
   have c3 : n * (16 * p.tc) = 16 * (n * p.tc) := by rw [Int.mul_left_comm]
   rw [hSp] at htc
   exact ⟨b1, c1, by dsimp only; omega⟩
  rw [if_neg e5] at htc ⊢
  by_cases e6 : k = 6
  ·rw [if_pos e6]
   have hst' : isA (standR (ps.map (Lay.room wd))).2 ∧ 0 ≤ (standR (ps.map (Lay.room wd))).1 ∧ (standR (ps.map (Lay.room wd))).1 ≤ 16 * S := hst
   obtain ⟨c1, c2, c3⟩ := hst'.1.up (n := (standR (ps.map (Lay.room wd))).1) hst'.2.1
   have h8 : (standR (ps.map (Lay.room wd))).2 ≤ 8 := by have := hst'.1; unfold isA at this; omega
   have h9 : (standR (ps.map (Lay.room wd))).1 ≤ 16 * S := hst'.2.2
   exact ⟨hst'.1, c3, by dsimp only; omega⟩
  rw [if_neg e6]
  by_cases e7 : k = 7
  ·rw [if_pos e7]
   split
   ·exact ⟨isA.one, by simp, by dsimp only; omega⟩
   ·exact ⟨isA.min (.inr (.inl rfl)) hw, by simp, by dsimp only; omega⟩
  rw [if_neg e7]
  by_cases e8 : k = 8
  ·rw [if_pos e8]
   obtain ⟨c1, c2, c3⟩ := hun.1.up (n := ((ps.map (Lay.room wd)).foldl stepU (0, 1)).1 + 1) (by have := hun.2.1; omega)
   have h8 : ((ps.map (Lay.room wd)).foldl stepU (0, 1)).2 ≤ 8 := by have := hun.1; unfold isA at this; omega
   have h9 := hun.2.2
   exact ⟨hun.1, c3, by dsimp only; omega⟩
  rw [if_neg e8]
  by_cases e9 : k = 9
  ·rw [if_pos e9]
   split
   ·exact ⟨isA.one, by simp, by dsimp only; omega⟩
   ·have := hb8 (packR (.mk k n f A len cap ps))
    exact ⟨(whB_isA _).min hw, by dsimp only; omega, by dsimp only; omega⟩
  rw [if_neg e9]
  exact ⟨isA.one, by simp, by dsimp only; omega⟩
end Go.Proofs.Ytbgbalfhbficaaa
