/- The walk of the reference's Copy: an object in new memory. The walks of the reference's Same and SameTexts at equal data, and of string(b). The image of objects in which no name is missing, in plain Lean; what the reference stores is that. The walk of the reference's image. Objects with the same data have the same image; the walk of the reference's Image. The walk of the law LinkImages. Conditions: as each theorem says. -/
import Derived.Test.YtiilkiggfjpibaaLinkU2
import Derived.Test.YtiilkiggfjpibaaLinkU3
import Derived.Test.YtiilkiggfjpibaaBase
import Derived.Test.YtiilkiggfjpibaaLinkU5
import Derived.BigRegion
namespace Go.Proofs.Ytiilkiggfjpibaa
open Go.RowKit LK
set_option linter.unusedVariables false
set_option linter.unusedSimpArgs false
theorem El_sym : El Try.prog 31 94 2 24 := El.of Try.underlying31 (show (Try.prog.info? 94).map (fun i => (i.zero, i.size, i.bytes)) = some (some (.agg #[.string ByteArray.empty, .int .i64 0]), 2, 24) by kernel_rfl) rfl (by decide) (by decide)
theorem El_wnt : El Try.prog 32 97 3 32 := El.of Try.underlying32 (show (Try.prog.info? 97).map (fun i => (i.zero, i.size, i.bytes)) = some (some (.agg #[.int .i64 0, .int .i64 0, .string ByteArray.empty]), 3, 32) by kernel_rfl) rfl (by decide) (by decide)
theorem one_cell {α : Type} {enc : α → List Value} (h : ∀ x, ∀ u ∈ enc x, u.oneCell' = true) (xs : List α) : ∀ u ∈ xs.flatMap enc, u.oneCell' = true := fun u hu => by
  obtain ⟨x, _, h2⟩ := List.mem_flatMap.1 hu
  exact h x u h2
theorem one_sym : ∀ x : Sym, ∀ u ∈ encSym x, u.oneCell' = true := fun x u hu => by simp [encSym, encS, encI] at hu; rcases hu with rfl | rfl <;> rfl
theorem one_wnt : ∀ x : Wnt, ∀ u ∈ encWnt x, u.oneCell' = true := fun x u hu => by simp [encWnt, encS, encI] at hu; rcases hu with rfl | rfl | rfl <;> rfl
theorem one_b8 : ∀ x : Int, ∀ u ∈ encI .u8 x, u.oneCell' = true := fun x u hu => by simp [encI] at hu; subst hu; rfl
/-- what each operation of the copy's region yields -/
def copyF (B bx : Nat) (o : OV) : Nat → Value → World → Prop
  | 0, v, w => ∃ b, v = .slice b 0 0 ∧ w.ownsRow B 5 1 v 0 []
  | 1, v, _ => v = .pointer (some ⟨bx, 0, none⟩)
  | 2, v, _ => v = .slice o.1.A o.1.n o.1.c
  | 3, v, w => w.ownsRow B 5 1 v o.1.n (o.1.xs.flatMap (encI .u8))
  | 4, v, w => ∃ b, v = .slice b 0 0 ∧ w.ownsRow B 94 2 v 0 []
  | 5, v, _ => v = .pointer (some ⟨bx, 1, none⟩)
  | 6, v, _ => v = .slice o.2.1.A o.2.1.n o.2.1.c
  | 7, v, w => w.ownsRow B 94 2 v o.2.1.n (o.2.1.xs.flatMap encSym)
  | 8, v, w => ∃ b, v = .slice b 0 0 ∧ w.ownsRow B 97 3 v 0 []
  | 9, v, _ => v = .pointer (some ⟨bx, 2, none⟩)
  | 10, v, _ => v = .slice o.2.2.A o.2.2.n o.2.2.c
  | 11, v, w => w.ownsRow B 97 3 v o.2.2.n (o.2.2.xs.flatMap encWnt)
  | 12, v, w => ∃ v0 v1 v2, v = .agg #[v0, v1, v2] ∧ w.ownsRow B 5 1 v0 o.1.n (o.1.xs.flatMap (encI .u8)) ∧ w.ownsRow B 94 2 v1 o.2.1.n (o.2.1.xs.flatMap encSym) ∧ w.ownsRow B 97 3 v2 o.2.2.n (o.2.2.xs.flatMap encWnt)
  | _, _, _ => True
theorem copyF_mono (B bx : Nat) (o : OV) : ∀ i v w1 w2, copyF B bx o i v w1 → Q w1 w2 → copyF B bx o i v w2
  | 0, v, w1, w2, ⟨b, e, h⟩, hq => ⟨b, e, own_q h hq⟩
  | 1, v, w1, w2, h, hq => h
  | 2, v, w1, w2, h, hq => h
  | 3, v, w1, w2, h, hq => own_q h hq
  | 4, v, w1, w2, ⟨b, e, h⟩, hq => ⟨b, e, own_q h hq⟩
  | 5, v, w1, w2, h, hq => h
  | 6, v, w1, w2, h, hq => h
  | 7, v, w1, w2, h, hq => own_q h hq
  | 8, v, w1, w2, ⟨b, e, h⟩, hq => ⟨b, e, own_q h hq⟩
  | 9, v, w1, w2, h, hq => h
  | 10, v, w1, w2, h, hq => h
  | 11, v, w1, w2, h, hq => own_q h hq
  | 12, v, w1, w2, ⟨v0, v1, v2, e, h0, h1, h2⟩, hq => ⟨v0, v1, v2, e, own_q h0 hq, own_q h1 hq, own_q h2 hq⟩
  | _ + 13, v, w1, w2, h, hq => trivial
set_option maxRecDepth 100000 in
set_option maxHeartbeats 400000 in
theorem rCopy_any (o : OV) (w : World) (hO : ObR w o) (h0 : o.1.n ≤ 1000) (h1 : o.2.1.n ≤ 1000) (h2 : o.2.2.n ≤ 1000) :
    Calls Try.prog 35 #[obV o] w fun e w' => ∃ v0 v1 v2, e = .returned (.agg #[v0, v1, v2]) ∧ w'.ownsRow w.heap.size 5 1 v0 o.1.n (o.1.xs.flatMap (encI .u8)) ∧ w'.ownsRow w.heap.size 94 2 v1 o.2.1.n (o.2.1.xs.flatMap encSym) ∧ w'.ownsRow w.heap.size 97 3 v2 o.2.2.n (o.2.2.xs.flatMap encWnt) ∧ Q w w' := by
  have HO := hide hO
  obtain ⟨⟨A0, n0, c0, bs⟩, ⟨A1, n1, c1, ss⟩, ⟨A2, n2, c2, ws⟩⟩ := o
  dsimp only at h0 h1 h2
  unfold obV SlV.val
  clear hO
  obtain ⟨w2, hw2⟩ : ∃ w2, (w.alloc (.cells #[.slice A0 n0 c0, .slice A1 n1 c1, .slice A2 n2 c2] 34)).alloc (.cells #[.slice none 0 0, .slice none 0 0, .slice none 0 0] 34) = w2 := ⟨_, rfl⟩
  have hq2 : Q w w2 := by rw [← hw2]; exact ((Q.refl w).alloc _).alloc _
  have hs2 : w2.heap.size = w.heap.size + 2 := by rw [← hw2]; simp
  have k0 : w2.cell? ⟨w.heap.size, 0, none⟩ = some (.slice A0 n0 c0) := by rw [← hw2]; simp
  have k1 : w2.cell? ⟨w.heap.size, 1, none⟩ = some (.slice A1 n1 c1) := by rw [← hw2]; simp
  have k2 : w2.cell? ⟨w.heap.size, 2, none⟩ = some (.slice A2 n2 c2) := by rw [← hw2]; simp
  have hb2 : w2.heap[w.heap.size + 1]? = some (.cells #[.slice none 0 0, .slice none 0 0, .slice none 0 0] 34 (0, 0)) := by rw [← hw2]; have := heap_alloc_new (w.alloc (.cells #[.slice A0 n0 c0, .slice A1 n1 c1, .slice A2 n2 c2] 34)) (.cells #[.slice none 0 0, .slice none 0 0, .slice none 0 0] 34); simpa using this
  have HW2 := hide hw2
  clear hw2
  go_enter Try.func35, Try.ntmps35
  go_wp2_with fail
  rw [HW2.out]
  refine Ri.made_last (copyF w2.heap.size w.heap.size (⟨A0, n0, c0, bs⟩, ⟨A1, n1, c1, ss⟩, ⟨A2, n2, c2, ws⟩)) (by kernel_rfl) (by kernel_rfl) rfl (by kernel_rfl) rfl (copyF_mono _ _ _) ?_ ?_
  · refine Ri.All.cons ?_ (Ri.All.cons ?_ (Ri.All.cons ?_ (Ri.All.cons ?_ (Ri.All.cons ?_ (Ri.All.cons ?_ (Ri.All.cons ?_ (Ri.All.cons ?_ (Ri.All.cons ?_ (Ri.All.cons ?_ (Ri.All.cons ?_ (Ri.All.cons ?_ (Ri.All.cons ?_ Ri.All.nil))))))))))))
    · refine ⟨rfl, fun f W hq hf A hA hB hO => ?_⟩
      exact Ri.wp_lit0 El_u8 rfl ⟨_, rfl, own_lit0 W _ _ _ _ rfl (by have h9 : w2.heap.size ≤ W.heap.size := hq.size; omega)⟩
    · refine ⟨rfl, fun f W hq hf A hA hB hO => ?_⟩
      have e1 := (hB 1 (by kernel_rfl)).trans (show _ = Value.pointer (some ⟨w.heap.size, 0, none⟩) by simp [Act.eval])
      exact Ri.wp_field (f := _) rfl e1 Try.underlying34 rfl (sz := 0) (by kernel_rfl) rfl
    · refine ⟨rfl, fun f W hq hf A hA hB hO => ?_⟩
      have h1 := hf 1 (by kernel_rfl)
      exact Ri.wp_load1 rfl ((hA 4 1 (by kernel_rfl) (by simp)).trans h1) Try.underlying30 rfl ((hq.facts.1 w.heap.size _ (show _ < w2.heap.size by omega)).trans (show w2.cell? _ = _ from k0)) rfl
    · refine ⟨rfl, fun f W hq hf A hA hB hO => ?_⟩
      obtain ⟨b, hb, hw⟩ := hf 0 (by kernel_rfl)
      have h2 := hf 2 (by kernel_rfl)
      rw [hb] at hw
      have hob := HO.out.up (hq2.drew.trans hq)
      refine Ri.wp_append El_u8 _ _ rfl ((hA 3 0 (by kernel_rfl) (by simp)).trans hb) ((hA 5 2 (by kernel_rfl) (by simp)).trans h2) hw hob.bn ?_ hob.b.rd (one_cell one_b8 _) (by dsimp only; omega) (by have h9 : w2.heap.size ≤ W.heap.size := hq.size; omega) (fun v w' h => h)
      rw [flatMap_length (k := 1) (fun _ => rfl), hob.b.len]
    · refine ⟨rfl, fun f W hq hf A hA hB hO => ?_⟩
      exact Ri.wp_lit0 El_sym rfl ⟨_, rfl, own_lit0 W _ _ _ _ rfl (by have h9 : w2.heap.size ≤ W.heap.size := hq.size; omega)⟩
    · refine ⟨rfl, fun f W hq hf A hA hB hO => ?_⟩
      have e1 := (hB 1 (by kernel_rfl)).trans (show _ = Value.pointer (some ⟨w.heap.size, 0, none⟩) by simp [Act.eval])
      exact Ri.wp_field (f := _) rfl e1 Try.underlying34 rfl (sz := 0) (by kernel_rfl) rfl
    · refine ⟨rfl, fun f W hq hf A hA hB hO => ?_⟩
      have h1 := hf 5 (by kernel_rfl)
      exact Ri.wp_load1 rfl ((hA 8 5 (by kernel_rfl) (by simp)).trans h1) Try.underlying31 rfl ((hq.facts.1 w.heap.size _ (show _ < w2.heap.size by omega)).trans (show w2.cell? _ = _ from k1)) rfl
    · refine ⟨rfl, fun f W hq hf A hA hB hO => ?_⟩
      obtain ⟨b, hb, hw⟩ := hf 4 (by kernel_rfl)
      have h2 := hf 6 (by kernel_rfl)
      rw [hb] at hw
      have hob := HO.out.up (hq2.drew.trans hq)
      refine Ri.wp_append El_sym _ _ rfl ((hA 7 4 (by kernel_rfl) (by simp)).trans hb) ((hA 9 6 (by kernel_rfl) (by simp)).trans h2) hw hob.sn ?_ hob.s.rd (one_cell one_sym _) (by dsimp only; omega) (by have h9 : w2.heap.size ≤ W.heap.size := hq.size; omega) (fun v w' h => h)
      rw [flatMap_length (k := 2) (fun _ => rfl), hob.s.len]
    · refine ⟨rfl, fun f W hq hf A hA hB hO => ?_⟩
      exact Ri.wp_lit0 El_wnt rfl ⟨_, rfl, own_lit0 W _ _ _ _ rfl (by have h9 : w2.heap.size ≤ W.heap.size := hq.size; omega)⟩
    · refine ⟨rfl, fun f W hq hf A hA hB hO => ?_⟩
      have e1 := (hB 1 (by kernel_rfl)).trans (show _ = Value.pointer (some ⟨w.heap.size, 0, none⟩) by simp [Act.eval])
      exact Ri.wp_field (f := _) rfl e1 Try.underlying34 rfl (sz := 0) (by kernel_rfl) rfl
    · refine ⟨rfl, fun f W hq hf A hA hB hO => ?_⟩
      have h1 := hf 9 (by kernel_rfl)
      exact Ri.wp_load1 rfl ((hA 12 9 (by kernel_rfl) (by simp)).trans h1) Try.underlying32 rfl ((hq.facts.1 w.heap.size _ (show _ < w2.heap.size by omega)).trans (show w2.cell? _ = _ from k2)) rfl
    · refine ⟨rfl, fun f W hq hf A hA hB hO => ?_⟩
      obtain ⟨b, hb, hw⟩ := hf 8 (by kernel_rfl)
      have h2 := hf 10 (by kernel_rfl)
      rw [hb] at hw
      have hob := HO.out.up (hq2.drew.trans hq)
      refine Ri.wp_append El_wnt _ _ rfl ((hA 11 8 (by kernel_rfl) (by simp)).trans hb) ((hA 13 10 (by kernel_rfl) (by simp)).trans h2) hw hob.tn ?_ hob.t.rd (one_cell one_wnt _) (by dsimp only; omega) (by have h9 : w2.heap.size ≤ W.heap.size := hq.size; omega) (fun v w' h => h)
      rw [flatMap_length (k := 3) (fun _ => rfl), hob.t.len]
    · refine ⟨rfl, fun f W hq hf A hA hB hO => ?_⟩
      have h3 := hf 3 (by kernel_rfl)
      have h7 := hf 7 (by kernel_rfl)
      have h11 := hf 11 (by kernel_rfl)
      obtain ⟨a3, d3, e3, _⟩ := own_form h3
      obtain ⟨a7, d7, e7, _⟩ := own_form h7
      obtain ⟨a11, d11, e11, _⟩ := own_form h11
      have E3 := (hA 6 3 (by kernel_rfl) (by simp)).trans e3
      have E7 := (hA 10 7 (by kernel_rfl) (by simp)).trans e7
      have E11 := (hA 14 11 (by kernel_rfl) (by simp)).trans e11
      refine Ri.wp_struct rfl [(0, .slice a3 n0 d3), (1, .slice a7 n1 d7), (2, .slice a11 n2 d11)] ?_ (cells := #[.slice a3 n0 d3, .slice a7 n1 d7, .slice a11 n2 d11]) ?_ ⟨_, _, _, rfl, ?_, ?_, ?_⟩
      · simp [E3, E7, E11]
      · kernel_rfl
      · rw [← e3]; exact h3
      · rw [← e7]; exact h7
      · rw [← e11]; exact h11
  · intro f W hq hf A hA1 hA hB
    obtain ⟨v0, v1, v2, e12, r0, r1, r2⟩ := hf 12 (by simp)
    obtain ⟨a3, d3, e3, _⟩ := own_form r0
    obtain ⟨a7, d7, e7, _⟩ := own_form r1
    obtain ⟨a11, d11, e11, _⟩ := own_form r2
    subst e3
    subst e7
    subst e11
    have E15 := (hA 15 12 (by kernel_rfl) (by simp)).trans e12
    have E2 := (hB 2 (by kernel_rfl)).trans (show _ = Value.pointer (some ⟨w.heap.size + 1, 0, none⟩) by simp [Act.eval])
    have hbW := (hq.below.block (w.heap.size + 1) (by omega)).trans hb2
    have hw3 := setRow_heap W (w.heap.size + 1) _ #[.slice a3 n0 d3, .slice a7 n1 d7, .slice a11 n2 d11] _ _ hbW
    have R0 := hide (own_lower (own_setRow (g := w.heap.size + 1) r0 #[.slice a3 n0 d3, .slice a7 n1 d7, .slice a11 n2 d11] (by omega)) (show w.heap.size ≤ w2.heap.size by omega))
    have R1 := hide (own_lower (own_setRow (g := w.heap.size + 1) r1 #[.slice a3 n0 d3, .slice a7 n1 d7, .slice a11 n2 d11] (by omega)) (show w.heap.size ≤ w2.heap.size by omega))
    have R2 := hide (own_lower (own_setRow (g := w.heap.size + 1) r2 #[.slice a3 n0 d3, .slice a7 n1 d7, .slice a11 n2 d11] (by omega)) (show w.heap.size ≤ w2.heap.size by omega))
    have QQ := hide ((hq2.trans hq).setRow (g := w.heap.size + 1) (by omega) #[.slice a3 n0 d3, .slice a7 n1 d7, .slice a11 n2 d11])
    refine wp_store_row 34 _ _ rfl (w.heap.size + 1) _ E2 E15 34 _ hbW (by kernel_rfl) rfl (by simp [Value.oneCell']) ⟨undef, rfl, ?_⟩
    rw [hA1]
    simp only [Ri.acts, Act.put]
    clear hf hA hB hA1 e12 r0 r1 r2 E15 E2 hbW hq
    go_wp2_with fail
    refine bodyPost_ret (v := .agg #[.slice a3 n0 d3, .slice a7 n1 d7, .slice a11 n2 d11]) (results_cell_row rfl _ _ (w.heap.size + 1) _ _ _ _ (by simp) hw3 Try.underlying34 rfl (by kernel_rfl)) rfl ?_
    exact ⟨_, _, _, rfl, R0.out, R1.out, R2.out, QQ.out⟩
end Go.Proofs.Ytiilkiggfjpibaa

namespace Go.Proofs.Ytiilkiggfjpibaa
open Go.RowKit LK
set_option linter.unusedVariables false
set_option linter.unusedSimpArgs false
def strI (xs : List Int) : ByteArray := strN (xs.map Int.toNat)
theorem u8_nat {xs : List Int} (h : ∀ x ∈ xs, 0 ≤ x ∧ x < 256) : xs.flatMap (encI .u8) = (xs.map Int.toNat).map byteV ∧ ∀ b ∈ xs.map Int.toNat, b < 256 := by
  constructor
  · induction xs with
    | nil => rfl
    | cons x r ih =>
      have hx := h x (List.mem_cons_self ..)
      rw [List.flatMap_cons, ih (fun y hy => h y (List.mem_cons_of_mem _ hy))]
      simp [encI, byteV]
      omega
  · intro b hb
    obtain ⟨x, hx, rfl⟩ := List.mem_map.1 hb
    have := h x hx
    omega
theorem conv_sl {P : Program} {src dst e : TypeId} (hs : P.underlying src = some (.slice e)) (he : P.underlying e = some (.int .u8)) (hd : P.underlying dst = some .string)
    {w : World} {A : Option Addr} {n c : Nat} {xs : List Int} (h : Sl 1 (encI .u8) w A n c xs) (hb : ∀ x ∈ xs, 0 ≤ x ∧ x < 256) : (convert src dst (.slice A n c)).run P w = .ok (.string (strI xs)) w := by
  obtain ⟨e, hb⟩ := u8_nat hb
  exact conv_rd hs he hd (e ▸ h.rd) hb n c (by rw [List.length_map, h.len])
theorem bl_strI {xs ys : List Int} (hx : ∀ x ∈ xs, 0 ≤ x ∧ x < 256) (hy : ∀ x ∈ ys, 0 ≤ x ∧ x < 256) : ((strI xs).toList == (strI ys).toList) = true ↔ xs = ys := by
  rw [beq_iff_eq, Lib.toList_data, Lib.toList_data]
  constructor
  · intro h
    simp only [strI, strN, List.map_map] at h
    induction xs generalizing ys with
    | nil => cases ys with
      | nil => rfl
      | cons => simp at h
    | cons x r ih => cases ys with
      | nil => simp at h
      | cons y s =>
        simp only [List.map_cons, List.cons.injEq] at h
        have h1 := hx x (List.mem_cons_self ..)
        have h2 := hy y (List.mem_cons_self ..)
        have h3 : (UInt8.ofNat x.toNat).toNat = (UInt8.ofNat y.toNat).toNat := by
          have := h.1
          simp only [Function.comp] at this
          rw [this]
        simp at h3
        rw [ih (fun z hz => hx z (List.mem_cons_of_mem _ hz)) (fun z hz => hy z (List.mem_cons_of_mem _ hz)) h.2, show x = y by omega]
  · intro h; rw [h]
theorem neq_sym (s : ByteArray) (a : Int) (w : World) : (binOp .neq 94 (.agg #[.string s, .int .i64 a]) (.agg #[.string s, .int .i64 a])).run Try.prog w = .ok (.bool false) w := by
  simp [go_sem, Try.underlying94, Try.underlying3, Try.underlying9]
theorem neq_wnt (s : ByteArray) (a b : Int) (w : World) : (binOp .neq 97 (.agg #[.int .i64 a, .int .i64 b, .string s]) (.agg #[.int .i64 a, .int .i64 b, .string s])).run Try.prog w = .ok (.bool false) w := by
  simp [go_sem, Try.underlying97, Try.underlying3, Try.underlying9]
/-- the same data -/
def SameD (o p : OV) : Prop := o.1.xs = p.1.xs ∧ o.2.1.xs = p.2.1.xs ∧ o.2.2.xs = p.2.2.xs
set_option maxRecDepth 100000 in
set_option maxHeartbeats 4000000 in
theorem rSame_same (o p : OV) (w : World) (hO : ObR w o) (hP : ObR w p) (hd : SameD o p) (h1 : o.2.1.n ≤ 1000) (h2 : o.2.2.n ≤ 1000) :
    Calls Try.prog 33 #[obV o, obV p] w fun e w' => e = .returned (.bool true) ∧ Q w w' := by
  obtain ⟨⟨A0, n0, c0, bs⟩, ⟨A1, n1, c1, ss⟩, ⟨A2, n2, c2, ws⟩⟩ := o
  obtain ⟨⟨B0, m0, d0, bt⟩, ⟨B1, m1, d1, st⟩, ⟨B2, m2, d2, wt⟩⟩ := p
  obtain ⟨e0, e1, e2⟩ := hd
  dsimp only at e0 e1 e2 h1 h2
  subst e0
  subst e1
  subst e2
  have l1 := hO.s.len
  have l2 := hO.t.len
  have m1e := hP.s.len
  have m2e := hP.t.len
  dsimp only at l1 l2 m1e m2e
  obtain rfl : m1 = n1 := by omega
  obtain rfl : m2 = n2 := by omega
  clear l1 l2 m1e m2e
  unfold obV SlV.val
  dsimp only
  have hn1i : (m1 : Int) ≤ 1000 := by omega
  have hn2i : (m2 : Int) ≤ 1000 := by omega
  obtain ⟨w2, hw2⟩ : ∃ w2, (w.alloc (.cells #[.slice A0 n0 c0, .slice A1 m1 c1, .slice A2 m2 c2] 34)).alloc (.cells #[.slice B0 m0 d0, .slice B1 m1 d1, .slice B2 m2 d2] 34) = w2 := ⟨_, rfl⟩
  have hq2 : Q w w2 := by rw [← hw2]; exact ((Q.refl w).alloc _).alloc _
  have hs2 : w2.heap.size = w.heap.size + 2 := by rw [← hw2]; simp
  have k0 : w2.cell? ⟨w.heap.size, 0, none⟩ = some (.slice A0 n0 c0) := by rw [← hw2]; simp
  have k1 : w2.cell? ⟨w.heap.size, 1, none⟩ = some (.slice A1 m1 c1) := by rw [← hw2]; simp
  have k2 : w2.cell? ⟨w.heap.size, 2, none⟩ = some (.slice A2 m2 c2) := by rw [← hw2]; simp
  have j0 : w2.cell? ⟨w.heap.size + 1, 0, none⟩ = some (.slice B0 m0 d0) := by rw [← hw2]; simp
  have j1 : w2.cell? ⟨w.heap.size + 1, 1, none⟩ = some (.slice B1 m1 d1) := by rw [← hw2]; simp
  have j2 : w2.cell? ⟨w.heap.size + 1, 2, none⟩ = some (.slice B2 m2 d2) := by rw [← hw2]; simp
  have HO := hide (hO.up hq2)
  have HP := hide (hP.up hq2)
  have cv1 := conv_sl Try.underlying30 Try.underlying5 Try.underlying9 HO.out.b HO.out.bok
  have cv2 := conv_sl Try.underlying30 Try.underlying5 Try.underlying9 HP.out.b HP.out.bok
  dsimp only at cv1 cv2
  have tt : ((strI bs).toList == (strI bs).toList) = true := by simp
  have t1 : ((m1 : Int) != (m1 : Int)) = false := by simp
  have t2 : ((m2 : Int) != (m2 : Int)) = false := by simp
  have NS := hide neq_sym
  have NW := hide neq_wnt
  have HW2 := hide hw2
  have K0 := hide k0
  have K1 := hide k1
  have K2 := hide k2
  have J0 := hide j0
  have J1 := hide j1
  have J2 := hide j2
  have HOx := hide hO
  have HPx := hide hP
  clear hw2 k0 k1 k2 j0 j1 j2 hO hP
  clear HOx HPx h1 h2
  go_enter Try.func33, Try.ntmps33
  go_wp2_with fail
  rw [HW2.out]
  have k0 := K0.out
  have k1 := K1.out
  have k2 := K2.out
  have j0 := J0.out
  have j1 := J1.out
  have j2 := J2.out
  go_wp2_with fail
  go_simp
  go_wp2_with fail
  go_simp
  go_wp2_with fail
  clear cv1 cv2 tt t1 t2 k0 k1 k2 j0 j1 j2
  go_loopw [5] (fun vi wr => ∃ i : Nat, i ≤ m1 ∧ vi = .int .i64 i ∧ Q w2 wr) (fun vi _ => m1 - (intOf vi).toNat)
  case atStart => exact ⟨0, by omega, by go_num, Q.refl _⟩
  case round =>
    obtain ⟨i, hi, rfl, hq⟩ := hrel
    have hsz := hq.size
    have k1 := (hq.facts.1 _ 1 (show w.heap.size < w2.heap.size by omega)).trans K1.out
    have j1 := (hq.facts.1 _ 1 (show w.heap.size + 1 < w2.heap.size by omega)).trans J1.out
    have hb0 : w.heap.size < wr.heap.size := by omega
    have hb1 : w.heap.size + 1 < wr.heap.size := by omega
    have HQ := hide hq
    by_cases hlt : i < m1
    · have hd1 : decide ((i : Int) < (m1 : Int)) = true := by simp; omega
      have hd0 : decide (i < m1) = true := by simp; omega
      have hlti : (i : Int) < (m1 : Int) := by omega
      obtain ⟨b1, o1, nm, at_, e1, hbb1, g1, x1, x2⟩ := (HO.out.up hq).s.sym i hlt
      obtain ⟨b2, o2, nm2, at2, e2, hbb2, g2, y1, y2⟩ := (HP.out.up hq).s.sym i hlt
      dsimp only at e1 e2 g1 g2
      rw [g1] at g2
      obtain ⟨rfl, rfl⟩ : nm = nm2 ∧ at_ = at2 := by simpa using g2
      subst e1
      subst e2
      have hns := NS.out nm at_
      clear g1 g2 hq
      go_wp2_with fail
      have hxc := ext_cell
      refine wp_region_ext (by kernel_rfl) (by kernel_rfl) ?_
      repeat (go_big_quiet_step ((fail)))
      clear hxc
      refine wpQuiet_nil ?_
      intro wz hwwz
      have hqwz := q_of_ext hwwz
      clear hwwz
      obtain ⟨hcwz, hfwz, hzwz⟩ := hqwz.facts
      try simp at hzwz
      try have hs0wz : w.heap.size < wz.heap.size := by omega
      try have hs1wz : w.heap.size + 1 < wz.heap.size := by omega
      clear hcwz hfwz x1 x2 y1 y2 k1 j1 hns
      go_wp2_with fail
      go_roundw
      case rel => exact ⟨i + 1, by omega, by go_num, HQ.out.trans hqwz⟩
      case measure => simp [intOf] <;> omega
    · have hd1 : decide ((i : Int) < (m1 : Int)) = false := by simp; omega
      have hd0 : decide (i < m1) = false := by simp; omega
      obtain rfl : i = m1 := by omega
      go_wp2_with fail
      clear k1 j1 hd1 hd0
      go_loopw [6] (fun vi wr => ∃ i : Nat, i ≤ m2 ∧ vi = .int .i64 i ∧ Q w2 wr) (fun vi _ => m2 - (intOf vi).toNat)
      case atStart => exact ⟨0, by omega, by go_num, HQ.out⟩
      case round =>
        obtain ⟨i, hi, rfl, hq⟩ := hrel
        have hsz := hq.size
        have k2 := (hq.facts.1 _ 2 (show w.heap.size < w2.heap.size by omega)).trans K2.out
        have j2 := (hq.facts.1 _ 2 (show w.heap.size + 1 < w2.heap.size by omega)).trans J2.out
        have hb0 : w.heap.size < wr.heap.size := by omega
        have hb1 : w.heap.size + 1 < wr.heap.size := by omega
        have HQ2 := hide hq
        by_cases hlt : i < m2
        · have hd1 : decide ((i : Int) < (m2 : Int)) = true := by simp; omega
          have hd0 : decide (i < m2) = true := by simp; omega
          have hlti : (i : Int) < (m2 : Int) := by omega
          obtain ⟨b1, o1, at_, kd, nm, e1, hbb1, g1, x1, x2, x3⟩ := (HO.out.up hq).t.wnt i hlt
          obtain ⟨b2, o2, at2, kd2, nm2, e2, hbb2, g2, y1, y2, y3⟩ := (HP.out.up hq).t.wnt i hlt
          dsimp only at e1 e2 g1 g2
          rw [g1] at g2
          obtain ⟨rfl, rfl, rfl⟩ : at_ = at2 ∧ kd = kd2 ∧ nm = nm2 := by simpa using g2
          subst e1
          subst e2
          have hnw := NW.out nm at_ kd
          clear g1 g2 hq
          go_wp2_with fail
          have hxc := ext_cell
          refine wp_region_ext (by kernel_rfl) (by kernel_rfl) ?_
          repeat (go_big_quiet_step ((fail)))
          clear hxc
          refine wpQuiet_nil ?_
          intro wz hwwz
          have hqwz := q_of_ext hwwz
          clear hwwz
          obtain ⟨hcwz, hfwz, hzwz⟩ := hqwz.facts
          try simp at hzwz
          try have hs0wz : w.heap.size < wz.heap.size := by omega
          try have hs1wz : w.heap.size + 1 < wz.heap.size := by omega
          clear hcwz hfwz x1 x2 x3 y1 y2 y3 k2 j2 hnw
          go_wp2_with fail
          go_roundw
          case rel => exact ⟨i + 1, by omega, by go_num, HQ2.out.trans hqwz⟩
          case measure => simp [intOf] <;> omega
        · have hd1 : decide ((i : Int) < (m2 : Int)) = false := by simp; omega
          have hd0 : decide (i < m2) = false := by simp; omega
          obtain rfl : i = m2 := by omega
          go_wp2_with fail
          go_ret
          exact ⟨rfl, hq2.trans HQ2.out⟩
set_option maxRecDepth 100000 in
set_option maxHeartbeats 4000000 in
theorem SameTexts_same (A1 : Option Addr) (n c1 : Nat) (A2 : Option Addr) (c2 : Nat) (xs : List Tx) (w : World) (h1 : Rd w w.heap.size A1 (xs.map encStr)) (h2 : Rd w w.heap.size A2 (xs.map encStr)) (hl : xs.length = n) (hn : n ≤ 100000) :
    Calls Try.prog 39 #[.slice A1 n c1, .slice A2 n c2] w fun e w' => e = .returned (.bool true) ∧ Q w w' := by
  have d : ((n : Int) != (n : Int)) = false := by simp
  have H1 := hide h1
  have H2 := hide h2
  have hni : (n : Int) ≤ 100000 := by omega
  have HL := hide hl
  clear h1 h2 hl
  go_enter Try.func39, Try.ntmps39
  go_wp2_with fail
  go_loopw [5] (fun vi wr => ∃ i : Nat, i ≤ n ∧ vi = .int .i64 i ∧ Q w wr) (fun vi _ => n - (intOf vi).toNat)
  case atStart => exact ⟨0, by omega, by go_num, Q.refl _⟩
  case round =>
    obtain ⟨i, hi, rfl, hq⟩ := hrel
    have hsz := hq.size
    by_cases hlt : i < n
    · have hd1 : decide ((i : Int) < (n : Int)) = true := by simp; omega
      have hd0 : decide (i < n) = true := by simp; omega
      have hlti : (i : Int) < (n : Int) := by omega
      obtain ⟨b1, o1, rfl, hb1, hc1⟩ := (H1.out.up hq).at_ (by rw [List.length_map]; have := HL.out; omega)
      obtain ⟨b2, o2, rfl, hb2, hc2⟩ := (H2.out.up hq).at_ (by rw [List.length_map]; have := HL.out; omega)
      have k1 := hc1 i (by rw [List.length_map]; have := HL.out; omega)
      have k2 := hc2 i (by rw [List.length_map]; have := HL.out; omega)
      simp only [List.getElem_map, encStr] at k1 k2
      obtain ⟨s, hs⟩ : ∃ s, (xs[i]'(by have := HL.out; omega)) = s := ⟨_, rfl⟩
      rw [hs] at k1 k2
      have f : ((⟨s.toArray⟩ : ByteArray).toList == (⟨s.toArray⟩ : ByteArray).toList) = true := by simp
      clear hc1 hc2 hs
      go_wp2_with fail
      have hxc := ext_cell
      refine wp_region_ext (by kernel_rfl) (by kernel_rfl) ?_
      repeat (go_big_quiet_step ((fail)))
      clear hxc
      refine wpQuiet_nil ?_
      intro wz hwwz
      have hqwz := q_of_ext hwwz
      clear hwwz
      obtain ⟨hcwz, hfwz, hzwz⟩ := hqwz.facts
      try simp at hzwz
      try have hs0wz : w.heap.size < wz.heap.size := by omega
      try have hs1wz : w.heap.size + 1 < wz.heap.size := by omega
      clear hcwz hfwz k1 k2
      go_wp2_with fail
      go_roundw
      case rel => exact ⟨i + 1, by omega, by go_num, hq.trans hqwz⟩
      case measure => simp [intOf] <;> omega
    · have hd1 : decide ((i : Int) < (n : Int)) = false := by simp; omega
      have hd0 : decide (i < n) = false := by simp; omega
      obtain rfl : i = n := by omega
      go_wp2_with fail
      go_ret
      exact ⟨rfl, hq⟩
end Go.Proofs.Ytiilkiggfjpibaa

namespace Go.Proofs.Ytiilkiggfjpibaa
open Go.RowKit LK
set_option linter.unusedVariables false
set_option linter.unusedSimpArgs false
def adr (T : Tab) (s : ByteArray) : Int := match lookS T s with | some (_, b) => b | none => 0
def wantsT (T : Tab) (st : Int) (ws : List Wnt) (L : List Value) : List Value := ws.foldl (fun L x => putW st (adr T x.2.2) x L) L
def z8 : Value := .int .u8 0
def padL (o : OV) (L : List Value) : List Value := L ++ o.1.xs.map (Value.int .u8) ++ List.replicate (room o.1.n - o.1.n) z8
def imgT (T : Tab) : Nat → List OV → List Value → List Value
  | _, [], L => L
  | a, o :: r, L => imgT T (a + room o.1.n) r (wantsT T (a : Nat) o.2.2.xs (padL o L))
def noneMiss (T : Tab) (os : List OV) : Prop := ∀ o ∈ os, ∀ x ∈ o.2.2.xs, (lookS T x.2.2).isSome = true
theorem wantsL_total {T : Tab} {st : Int} : ∀ {ws : List Wnt} {L : List Value}, (∀ x ∈ ws, (lookS T x.2.2).isSome = true) → wantsL T st ws L = some (wantsT T st ws L)
  | [], L, _ => rfl
  | x :: r, L, h => by
    have hx := h x (List.mem_cons_self ..)
    obtain ⟨pq, e⟩ := Option.isSome_iff_exists.1 hx
    have ha : adr T x.2.2 = pq.2 := by unfold adr; rw [e]
    simp only [wantsL, e]
    rw [wantsL_total (fun y hy => h y (List.mem_cons_of_mem _ hy))]
    simp only [wantsT, List.foldl_cons, ha]
theorem imgF_total {T : Tab} : ∀ {os : List OV} {a : Nat} {L : List Value}, noneMiss T os → imgF T a os L = some (imgT T a os L)
  | [], a, L, _ => rfl
  | o :: r, a, L, h => by
    unfold imgF imgT imgStep
    rw [wantsL_total (h o (List.mem_cons_self ..))]
    exact imgF_total (fun p hp => h p (List.mem_cons_of_mem _ hp))
theorem wantsL_miss {T : Tab} {st : Int} : ∀ {ws : List Wnt} {L : List Value} {x : Wnt}, x ∈ ws → lookS T x.2.2 = none → wantsL T st ws L = none
  | y :: r, L, x, hx, hn => by
    unfold wantsL
    split
    · rfl
    · rename_i pq e
      rcases List.mem_cons.1 hx with rfl | hx
      · rw [hn] at e; cases e
      · exact wantsL_miss hx hn
theorem imgF_miss {T : Tab} : ∀ {os : List OV} {a : Nat} {L : List Value} {o : OV} {x : Wnt}, o ∈ os → x ∈ o.2.2.xs → lookS T x.2.2 = none → imgF T a os L = none
  | p :: r, a, L, o, x, ho, hx, hn => by
    unfold imgF
    split
    · rfl
    · rename_i L' e
      rcases List.mem_cons.1 ho with rfl | ho
      · unfold imgStep at e
        rw [wantsL_miss hx hn] at e
        cases e
      · exact imgF_miss ho hx hn
theorem missL_nil {T : Tab} {os : List OV} : missL T os = [] ↔ noneMiss T os := by
  unfold missL noneMiss
  rw [List.flatMap_eq_nil_iff]
  refine ⟨fun h o ho x hx => ?_, fun h o ho => ?_⟩
  · have := h o ho
    unfold missW at this
    rw [List.map_eq_nil_iff, List.filter_eq_nil_iff] at this
    have h2 := this x hx
    cases hl : lookS T x.2.2 with
    | none => rw [hl] at h2; exact absurd rfl h2
    | some _ => rfl
  · unfold missW
    rw [List.map_eq_nil_iff, List.filter_eq_nil_iff]
    intro x hx
    have := h o ho x hx
    obtain ⟨pq, e⟩ := Option.isSome_iff_exists.1 this
    rw [e]
    exact Bool.false_ne_true
theorem imgF_none_iff {T : Tab} {os : List OV} {a : Nat} {L : List Value} : imgF T a os L = none ↔ missL T os ≠ [] := by
  by_cases h : noneMiss T os
  · rw [imgF_total h]
    exact ⟨fun e => (by cases e), fun e => absurd (missL_nil.2 h) e⟩
  · constructor
    · intro _ e
      exact h (missL_nil.1 e)
    · intro _
      unfold noneMiss at h
      simp only [Classical.not_forall, Bool.not_eq_true] at h
      obtain ⟨o, ho, x, hx, hn⟩ := h
      exact imgF_miss ho hx (by simpa using hn)
theorem wantsT_step {T : Tab} {st : Int} {ws : List Wnt} {j : Nat} {x : Wnt} {L : List Value} (h : ws[j]? = some x) : wantsT T st (ws.take (j + 1)) L = putW st (adr T x.2.2) x (wantsT T st (ws.take j) L) := by
  unfold wantsT
  rw [List.take_add_one, h, Option.toList_some, List.foldl_append]
  rfl
theorem wantsT_len {T : Tab} {st : Int} : ∀ {ws : List Wnt} {L : List Value}, (wantsT T st ws L).length = L.length
  | [], L => rfl
  | x :: r, L => by
    have := wantsT_len (T := T) (st := st) (ws := r) (L := putW st (adr T x.2.2) x L)
    rw [putW_len] at this
    exact this
theorem putL_app {v o : Nat} : ∀ {k : Nat} {X Z : List Value}, o + k ≤ X.length → putL v o k (X ++ Z) = putL v o k X ++ Z
  | 0, X, Z, _ => rfl
  | k + 1, X, Z, h => by
    rw [putL, putL, putL_app (by omega), List.set_append_left _ _ (by rw [putL_len]; omega)]
theorem imgT_step {T : Tab} {os : List OV} {k : Nat} {o : OV} {a : Nat} {L : List Value} (h : os[k]? = some o) : imgT T a (os.drop k) L = imgT T (a + room o.1.n) (os.drop (k + 1)) (wantsT T (a : Nat) o.2.2.xs (padL o L)) := by
  obtain ⟨hj, e⟩ := List.getElem?_eq_some_iff.1 h
  rw [List.drop_eq_getElem_cons hj, e]
  rfl
theorem adr_found {T : Tab} {s : ByteArray} (h : (lookS T s).isSome = true) : (match lookS T s with | some (_, b) => ((b, true) : Int × Bool) | none => (0, false)) = (adr T s, true) := by
  obtain ⟨pq, e⟩ := Option.isSome_iff_exists.1 h
  unfold adr
  rw [e]
/-- one byte more of an object, in the place of a zero -/
theorem byte_step {X : List Value} {bs : List Int} {k m : Nat} {x : Int} (h : bs[k]? = some x) (hm : 0 < m) :
    ((X ++ (bs.take k).map (Value.int .u8)) ++ List.replicate m z8).set (X.length + k) (.int .u8 x) = (X ++ (bs.take (k + 1)).map (Value.int .u8)) ++ List.replicate (m - 1) z8 := by
  obtain ⟨hk, e⟩ := List.getElem?_eq_some_iff.1 h
  have hl : (X ++ (bs.take k).map (Value.int .u8)).length = X.length + k := by rw [List.length_append, List.length_map, List.length_take]; omega
  obtain ⟨m', rfl⟩ : ∃ m', m = m' + 1 := ⟨m - 1, by omega⟩
  rw [List.set_append_right _ _ (by omega), hl, Nat.sub_self, List.replicate_succ, List.set_cons_zero, List.take_add_one, h, Option.toList_some, List.map_append]
  simp
theorem offF_mono (os : List OV) {i j : Nat} (h : i ≤ j) : offF (os.take i) ≤ offF (os.take j) := by
  unfold offF
  rw [show os.take i = (os.take j).take i by rw [List.take_take]; congr 1; omega]
  conv => rhs; rw [← List.take_append_drop i (os.take j), List.map_append, List.sum_append]
  omega
end Go.Proofs.Ytiilkiggfjpibaa

namespace Go.Proofs.Ytiilkiggfjpibaa
open Go.RowKit LK
set_option linter.unusedVariables false
set_option linter.unusedSimpArgs false
set_option maxRecDepth 100000 in
set_option maxHeartbeats 4000000 in
theorem rimage_any (A : Option Addr) (n c : Nat) (os : List OV) (w : World) (hO : ObsR w A n c os) (hn : n ≤ 8) (hv : ∀ o ∈ os, o.valid = 0) (hm : noneMiss (tabF 0 0 os) os) :
    Calls Try.prog 77 #[.slice A n c] w fun e w' => ∃ v, e = .returned v ∧ w'.ownsRow w.heap.size 5 1 v (offF os) (imgT (tabF 0 0 os) 0 os []) ∧ Q w w' := by
  have hl := hO.sl.len
  have hv5 : ∀ o ∈ os, o.1.n ≤ 512 := fun o ho => (valid_parts (hO.all o ho).s.len (hv o ho)).1
  have HS := hide (rstarts_any A n c os w hO (by omega) hv5)
  have HAD := hide (fun wx (hq : Q w wx) s => address_any A n c os s wx (hO.up hq) hn hv)
  have HOFF := hide (fun k => offF_le hv5 k)
  have hni : (n : Int) ≤ 8 := by omega
  obtain ⟨T, hT⟩ : ∃ T, tabF 0 0 os = T := ⟨_, rfl⟩
  rw [hT] at hm ⊢
  obtain ⟨N, hN⟩ : ∃ N, offF os = N := ⟨_, rfl⟩
  have hNn : offF (os.take n) = N := by rw [List.take_of_length_le (by omega), hN]
  have hNb := HOFF.out n
  rw [hNn] at hNb
  have hNi : (N : Int) ≤ 4352 := by omega
  obtain ⟨R, hR⟩ : ∃ R, imgT T 0 os [] = R := ⟨_, rfl⟩
  rw [hR, hN]
  have HAD2 := hide (fun (s : ByteArray) (h : (lookS T s).isSome = true) => show addrR os s = (adr T s, true) by unfold addrR; rw [hT]; exact adr_found h)
  have HO := hide hO
  have HL := hide hl
  have HV := hide hv
  have HM := hide hm
  have HT := hide hT
  have HN := hide hN
  have HR := hide hR
  have HV5 := hide hv5
  clear hO hl hv hm hT hN hR hv5
  have HNN := hide hNn
  clear hNn
  go_enter Try.func77, Try.ntmps77
  go_wp2_with fail
  refine HS.out.mono ?_
  rintro e w1 ⟨v1, rfl, hown1, hq1⟩
  obtain ⟨g, cc, rfl, hg1, hg2, hg3, hg4, -, -⟩ := own_at hown1 (by omega)
  unfold maxLen at hg4
  have hcN := rows_get hown1 (startsL_get os (n + 1) n (by omega))
  rw [HNN.out] at hcN
  have hnn1 : (n : Int) < (n : Int) + 1 := by omega
  have hnn2 : n < n + 1 := by omega
  have HOW := hide hown1
  have HQ1 := hide hq1
  clear hown1 hq1
  go_wp2_with (at_make; refine wpList_mk rfl _ _ rfl Try.underlying30 (show (Try.prog.info? 5).map (fun i => (i.zero, i.size, i.bytes)) = some (some (.int .u8 0), 1, 1) by kernel_rfl) rfl w1.heap.size (n := N) rfl rfl rfl rfl ?_ ?_ ?_ ?_; (focus omega); (focus omega); (focus exact Nat.le_refl _); intro w3 hown3 hq3 hlt3; have HOW3 := hide hown3; have HQ3 := hide hq3; clear hown3 hq3)
  clear hcN hnn1 hnn2
  go_loopw [5] (fun vi wr => ∃ (i : Nat) (X : List Value), i ≤ n ∧ vi = .int .i64 i ∧ R = imgT T (offF (os.take i)) (os.drop i) X ∧ X.length = offF (os.take i) ∧ Q w1 wr ∧ w1.heap.size < wr.heap.size ∧ wr.ownsRow w1.heap.size 5 1 (.slice (some ⟨w1.heap.size, 0, none⟩) N N) N (X ++ List.replicate (N - offF (os.take i)) z8)) (fun vi _ => n - (intOf vi).toNat)
  case atStart => exact ⟨0, [], by omega, by go_num, HR.out.symm, rfl, HQ3.out, hlt3, by have h := HOW3.out; simpa [offF, z8] using h⟩
  case round =>
    obtain ⟨i, X, hi, rfl, hR, hX, hq, hlt, hrow⟩ := hrel
    obtain ⟨wo, rfl⟩ : ∃ wo : World, wo = wr := ⟨_, rfl⟩
    have hof := HOFF.out i
    have hoN : offF (os.take i) ≤ N := by rw [← HNN.out]; exact offF_mono os hi
    obtain ⟨ofi, hofe⟩ : ∃ ofi, offF (os.take i) = ofi := ⟨_, rfl⟩
    rw [hofe] at hR hX hrow hof hoN
    have HRR := hide hR
    have HX := hide hX
    have HQ := hide hq
    have HRow := hide hrow
    have HOE := hide hofe
    clear hR hX hq hrow hofe
    by_cases hin : i < n
    · have hd1 : decide ((i : Int) < (n : Int)) = true := by simp; omega
      have hd0 : decide (i < n) = true := by simp; omega
      have hlti : (i : Int) < (n : Int) := by omega
      have hlti1 : (i : Int) < (n : Int) + 1 := by omega
      have hlti2 : i < n + 1 := by omega
      obtain ⟨b1, o1, ob, rfl, hb1, g1, x1, x2, x3, hob⟩ := HO.out.at_ i hin
      obtain ⟨⟨A0, n0, c0, bs⟩, ⟨A1, n1, c1, ss⟩, ⟨A2, n2, c2, ws⟩⟩ := ob
      have hval := HV.out _ (List.mem_of_getElem? g1)
      obtain ⟨v0, v1, v2⟩ := valid_parts hob.s.len hval
      have hms := HM.out _ (List.mem_of_getElem? g1)
      have hoN2 : offF (os.take (i + 1)) ≤ N := by rw [← HNN.out]; exact offF_mono os hin
      have hos := offF_succ g1
      rw [HOE.out] at hos
      dsimp only at x1 x2 x3 v0 v1 v2 hos
      obtain ⟨rm, hrm⟩ : ∃ rm, room n0 = rm := ⟨_, rfl⟩
      have hrb : n0 + 8 ≤ rm ∧ rm ≤ 544 := by rw [← hrm]; unfold room; omega
      rw [hrm] at hos
      rw [hos] at hoN2
      have hn0i : (n0 : Int) ≤ 512 := by omega
      have hofi : (ofi : Int) ≤ 4352 := by omega
      have hsc := rows_get HOW.out (startsL_get os (n + 1) i (by omega))
      rw [HOE.out] at hsc
      have G1 := hide g1
      have X1 := hide x1
      have X3 := hide x3
      have HOB := hide hob
      have HVAL := hide hval
      have HMS := hide hms
      have HRM := hide hrm
      have HOS := hide hos
      have HSC := hide hsc
      have V2 := hide v2
      clear g1 x1 x3 hob hval hms hrm hos hsc v2
      clear x2
      have q1 := HQ1.out
      have hbw1 : b1 < w1.heap.size := Nat.lt_of_lt_of_le hb1 q1.size
      have HB1 := hide hbw1
      clear q1
      go_wp2_with fail
      clear hd1 hd0
      go_loopw [6] (fun vi wr => ∃ k : Nat, k ≤ n0 ∧ vi = .int .i64 k ∧ Q w1 wr ∧ w1.heap.size < wr.heap.size ∧ wr.ownsRow w1.heap.size 5 1 (.slice (some ⟨w1.heap.size, 0, none⟩) N N) N ((X ++ (bs.take k).map (Value.int .u8)) ++ List.replicate (N - ofi - k) z8)) (fun vi _ => n0 - (intOf vi).toNat)
      case atStart => exact ⟨0, by omega, by go_num, HQ.out, hlt, by have h := HRow.out; simpa using h⟩
      case round =>
        obtain ⟨k, hk, rfl, hq, hltr, hrow⟩ := hrel
        have x1 := (hq.facts.1 _ _ hbw1).trans ((HQ1.out.facts.1 _ _ hb1).trans X1.out)
        have sc := (hq.facts.1 _ _ hg2).trans HSC.out
        have hbr : b1 < wr.heap.size := by omega
        have hgr : g < wr.heap.size := by omega
        by_cases hkn : k < n0
        · have hd1 : decide ((k : Int) < (n0 : Int)) = true := by simp; omega
          have hd0 : decide (k < n0) = true := by simp; omega
          have hlti : (k : Int) < (n0 : Int) := by omega
          have hob8 := (HOB.out.b.up HQ1.out).up hq
          obtain ⟨b0, o0, x, e0, hb0, hx0, hc0⟩ := hob8.at_ (fun _ => rfl) (by decide) k hkn
          dsimp only at e0 hx0
          subst e0
          have y0 : wr.cell? ⟨b0, o0 + k, none⟩ = some (.int .u8 x) := by have := hc0 0 _ rfl; simpa using this
          obtain ⟨g', c', e', -, -, -, -, hcell, hfz⟩ := own_at hrow (by omega)
          cases e'
          obtain ⟨u, hu⟩ : ∃ u, ((X ++ (bs.take k).map (Value.int .u8)) ++ List.replicate (N - ofi - k) z8)[ofi + k]? = some u := ⟨_, List.getElem?_eq_getElem (by have := hrow.1; omega)⟩
          have yc := hcell _ u hu
          have yf := hfz (ofi + k)
          have hokN : (ofi : Int) + (k : Int) < (N : Int) := by omega
          have hokN2 : ofi + k < N := by omega
          have hkn0 : (k : Int) < (n0 : Int) := by omega
          have HQK := hide hq
          have HRK := hide hrow
          have HX0 := hide hx0
          clear hq hrow hx0
          clear hcell hfz hu hc0 hob8
          go_wp2_with fail
          go_region
          go_wp2_with fail
          clear x1 sc y0 yc yf hokN hokN2
          go_roundw
          case rel => exact ⟨k + 1, by omega, by go_num, (HQK.out.set (Nat.le_refl _) _).drew, by simp; omega, by
            have h := own_set HRK.out (ofi + k) (.int .u8 x)
            rw [show ofi + k = X.length + k by rw [HX.out], byte_step HX0.out (by omega), show N - ofi - k - 1 = N - ofi - (k + 1) by omega, HX.out] at h
            exact own_q h (Q.refl _).drew⟩
          case measure => simp [intOf] <;> omega
        · have hd1 : decide ((k : Int) < (n0 : Int)) = false := by simp; omega
          have hd0 : decide (k < n0) = false := by simp; omega
          obtain rfl : k = n0 := by omega
          have HQK := hide hq
          clear hq
          have hbl := HOB.out.b.len
          have htl := HOB.out.t.len
          dsimp only at hbl htl
          have hrow2 : wr.ownsRow w1.heap.size 5 1 (.slice (some ⟨w1.heap.size, 0, none⟩) N N) N (padL (⟨A0, k, c0, bs⟩, ⟨A1, n1, c1, ss⟩, ⟨A2, n2, c2, ws⟩) X ++ List.replicate (N - ofi - rm) z8) := by
            have h := hrow
            rw [List.take_of_length_le (by omega)] at h
            unfold padL
            dsimp only
            rw [HRM.out, List.append_assoc, List.replicate_append_replicate, show rm - k + (N - ofi - rm) = N - ofi - k by omega]
            exact h
          have HRP := hide hrow2
          have HTL := hide htl
          obtain ⟨Y, hY⟩ : ∃ Y, padL (⟨A0, k, c0, bs⟩, ⟨A1, n1, c1, ss⟩, ⟨A2, n2, c2, ws⟩) X = Y := ⟨_, rfl⟩
          rw [hY] at HRP
          have HYl := hide (show Y.length = ofi + rm by rw [← hY]; unfold padL; simp [HRM.out, HX.out, hbl]; omega)
          have HY := hide hY
          have hwl := wants_le HVAL.out
          dsimp only at hwl
          have hn2i : (n2 : Int) ≤ 16 := by omega
          clear hwl
          clear hrow hrow2 hY sc hbl htl
          go_wp2_with fail
          clear x1 hd1 hd0
          go_loopw [7] (fun vi wr => ∃ j : Nat, j ≤ n2 ∧ vi = .int .i64 j ∧ Q w1 wr ∧ w1.heap.size < wr.heap.size ∧ wr.ownsRow w1.heap.size 5 1 (.slice (some ⟨w1.heap.size, 0, none⟩) N N) N (wantsT T (ofi : Nat) (ws.take j) Y ++ List.replicate (N - ofi - rm) z8)) (fun vi _ => n2 - (intOf vi).toNat)
          case atStart => exact ⟨0, by omega, by go_num, HQK.out, hltr, HRP.out⟩
          case round =>
            obtain ⟨j, hj, rfl, hq, hltx, hrow⟩ := hrel
            obtain ⟨wx, rfl⟩ : ∃ wx : World, wx = wr := ⟨_, rfl⟩
            have x3 := (hq.facts.1 _ _ hbw1).trans ((HQ1.out.facts.1 _ _ hb1).trans X3.out)
            have hbr2 : b1 < wx.heap.size := by omega
            have HQJ := hide hq
            have HRJ := hide hrow
            clear hq hrow
            by_cases hjn : j < n2
            · have hd1 : decide ((j : Int) < (n2 : Int)) = true := by simp; omega
              have hd0 : decide (j < n2) = true := by simp; omega
              have hlti : (j : Int) < (n2 : Int) := by omega
              obtain ⟨b4, o4, at_, kd, nm, e4, hb4, g4, y1, y2, y3⟩ := ((HOB.out.t.up HQ1.out).up HQJ.out).wnt j hjn
              dsimp only at e4 g4
              subst e4
              have hsm := HMS.out _ (List.mem_of_getElem? g4)
              dsimp only at hsm
              have HSM := hide hsm
              have HG4 := hide g4
              clear g4 hsm
              go_wp2_with fail
              obtain ⟨q, hqe⟩ : ∃ q, adr T nm = q := ⟨_, rfl⟩
              have HAQ := hide hqe
              have hc := HAD.out (wx.alloc (.cells #[.int .i64 at_, .int .i64 kd, .string nm] 97)) ((HQ1.out.trans HQJ.out).alloc _) nm
              rw [HAD2.out nm HSM.out, hqe] at hc
              clear hqe
              refine hc.mono ?_
              rintro e wz ⟨rfl, hqz⟩
              clear hc
              have hsound : soundB k ss ws = true := by
                have h := HVAL.out
                unfold OV.valid validF at h
                dsimp only at h
                cases hs : soundB k ss ws with
                | true => rfl
                | false => rw [hs] at h; split at h <;> simp at h
              simp only [soundB, Bool.and_eq_true] at hsound
              have hx := wantsOk_mem hsound.2 (List.mem_of_getElem? HG4.out)
              unfold wntOk at hx
              simp only [Bool.and_eq_true, decide_eq_true_eq] at hx
              obtain ⟨⟨⟨⟨-, a0⟩, a1⟩, a2⟩, a3⟩ := hx
              obtain ⟨an, rfl⟩ : ∃ an : Nat, at_ = (an : Int) := ⟨at_.toNat, by omega⟩
              have ha4 : an + 4 ≤ k := by omega
              have z0 : wz.cell? ⟨wx.heap.size, 0, none⟩ = some (.int .i64 an) := by rw [hqz.facts.1 _ _ (by simp)]; simp
              have z1 : wz.cell? ⟨wx.heap.size, 1, none⟩ = some (.int .i64 kd) := by rw [hqz.facts.1 _ _ (by simp)]; simp
              have hqxz : Q wx wz := ((Q.refl wx).alloc _).trans hqz
              have hwz : wx.heap.size < wz.heap.size := by have := hqz.size; simp at this; omega
              have HQZ := hide (HQJ.out.trans hqxz)
              have HRZ := hide (own_q HRJ.out hqxz)
              clear hsound y1 y2 y3 x3 hqz hqxz hd1 hd0
              have sc := (HQZ.out.facts.1 _ _ hg2).trans HSC.out
              have hgz : g < wz.heap.size := by omega
              rcases (show kd = 0 ∨ kd = 1 by omega) with e0 | e1
              · subst e0
                go_wp2_with fail
                obtain ⟨v, hv⟩ : ∃ v : Nat, q % 4294967296 = (v : Int) := ⟨(q % 4294967296).toNat, by omega⟩
                have hvb : (v : Int) < 4294967296 := by omega
                have HPV := hide (show ((if (0 : Int) = 1 then q - ((ofi : Nat) + (an : Int)) else q) % 4294967296).toNat = v by rw [if_neg (by decide), hv]; rfl)
                have HPW := hide (show putW (ofi : Nat) q ((an : Int), 0, nm) (wantsT T (ofi : Nat) (ws.take j) Y) = putL v (ofi + an) 4 (wantsT T (ofi : Nat) (ws.take j) Y) by
                  unfold putW
                  dsimp only
                  rw [HPV.out]
                  rfl)
                have HV9 := hide hv
                clear hv HPV
                go_loopw [11] (fun vi wr => ∃ b : Nat, b ≤ 4 ∧ vi = .int .i64 b ∧ Q w1 wr ∧ wx.heap.size < wr.heap.size ∧ wr.cell? ⟨wx.heap.size, 0, none⟩ = some (.int .i64 an) ∧ wr.ownsRow w1.heap.size 5 1 (.slice (some ⟨w1.heap.size, 0, none⟩) N N) N (putL v (ofi + an) b (wantsT T (ofi : Nat) (ws.take j) Y) ++ List.replicate (N - ofi - rm) z8)) (fun vi _ => 4 - (intOf vi).toNat)
                case atStart => exact ⟨0, by omega, by go_num, HQZ.out, hwz, z0, HRZ.out⟩
                case round =>
                  obtain ⟨b, hb, rfl, hq, hlx, z0, hrow⟩ := hrel
                  have sc := (hq.facts.1 _ _ hg2).trans HSC.out
                  have hgr : g < wr.heap.size := by omega
                  by_cases hb4' : b < 4
                  · have hd1 : decide ((b : Int) < (4 : Int)) = true := by simp; omega
                    have hd0 : decide (b < 4) = true := by simp; omega
                    have hbi : (b : Int) ≤ 3 := by omega
                    obtain ⟨g', c', e', -, -, -, -, hcell, hfz⟩ := own_at hrow (by omega)
                    cases e'
                    obtain ⟨u, hu⟩ : ∃ u, (putL v (ofi + an) b (wantsT T (ofi : Nat) (ws.take j) Y) ++ List.replicate (N - ofi - rm) z8)[ofi + an + b]? = some u := ⟨_, List.getElem?_eq_getElem (by have := hrow.1; omega)⟩
                    have yc := hcell _ u hu
                    have yf := hfz (ofi + an + b)
                    have hokN : (ofi : Int) + (an : Int) + (b : Int) < (N : Int) := by omega
                    have hokN2 : ofi + an + b < N := by omega
                    have hvv := HV9.out
                    have HQB := hide hq
                    have HRB := hide hrow
                    clear hq hrow
                    clear hcell hfz hu
                    go_wp2_with fail
                    go_region
                    go_wp2_with fail
                    clear sc yc yf hokN hokN2
                    go_roundw
                    case rel => exact ⟨b + 1, by omega, by go_num, (HQB.out.set (Nat.le_refl _) _).drew, by simp; omega, (World.cell?_setCell_other wr ⟨w1.heap.size, ofi + an + b, none⟩ ⟨wx.heap.size, 0, none⟩ _ (fun e => by injection e with e1; omega)).trans z0, by
                      have h := own_set HRB.out (ofi + an + b) (pbyte v b)
                      rw [List.set_append_left _ _ (by rw [putL_len, wantsT_len, HYl.out]; omega)] at h
                      exact own_q h (Q.refl _).drew⟩
                    case measure => simp [intOf] <;> omega
                  · have hd1 : decide ((b : Int) < (4 : Int)) = false := by simp; omega
                    have hd0 : decide (b < 4) = false := by simp; omega
                    obtain rfl : b = 4 := by omega
                    have E := hide (wantsT_step (T := T) (st := (ofi : Nat)) (L := Y) HG4.out)
                    go_wp2_with fail
                    go_roundw
                    case rel => exact ⟨j + 1, by omega, by go_num, hq, by omega, by rw [E.out]; dsimp only; rw [HAQ.out, HPW.out]; exact hrow⟩
                    case measure => simp [intOf] <;> omega
              · subst e1
                go_wp2_with fail
                have hxc := ext_cell
                refine wp_region_ext (by kernel_rfl) (by kernel_rfl) ?_
                repeat (go_big_quiet_step ((fail)))
                clear hxc
                refine wpQuiet_nil ?_
                intro wy hwwy
                have hqwy := q_of_ext hwwy
                clear hwwy
                obtain ⟨hcwy, hfwy, hzwy⟩ := hqwy.facts
                try simp at hzwy
                try have hs0wy : w.heap.size < wy.heap.size := by omega
                try have hs1wy : w.heap.size + 1 < wy.heap.size := by omega
                have HQY := hide (HQZ.out.trans hqwy)
                have HRY := hide (own_q HRZ.out hqwy)
                have hxy : wx.heap.size < wy.heap.size := by have := hqwy.size; omega
                have y0 : wy.cell? ⟨wx.heap.size, 0, none⟩ = some (.int .i64 an) := (hqwy.facts.1 _ _ hwz).trans z0
                clear hcwy hfwy z0 z1
                go_wp2_with fail
                obtain ⟨v, hv⟩ : ∃ v : Nat, wrap64 (q - ((ofi : Int) + (an : Int))) % 4294967296 = (v : Int) := ⟨(wrap64 (q - ((ofi : Int) + (an : Int))) % 4294967296).toNat, by omega⟩
                have hvb : (v : Int) < 4294967296 := by omega
                have HPV := hide (show ((if (1 : Int) = 1 then q - ((ofi : Nat) + (an : Int)) else q) % 4294967296).toNat = v by rw [if_pos rfl]; have h := hv; unfold wrap64 at h; omega)
                have HPW := hide (show putW (ofi : Nat) q ((an : Int), 1, nm) (wantsT T (ofi : Nat) (ws.take j) Y) = putL v (ofi + an) 4 (wantsT T (ofi : Nat) (ws.take j) Y) by
                  unfold putW
                  dsimp only
                  rw [HPV.out]
                  rfl)
                have HV9 := hide hv
                clear hv HPV
                go_loopw [11] (fun vi wr => ∃ b : Nat, b ≤ 4 ∧ vi = .int .i64 b ∧ Q w1 wr ∧ wx.heap.size < wr.heap.size ∧ wr.cell? ⟨wx.heap.size, 0, none⟩ = some (.int .i64 an) ∧ wr.ownsRow w1.heap.size 5 1 (.slice (some ⟨w1.heap.size, 0, none⟩) N N) N (putL v (ofi + an) b (wantsT T (ofi : Nat) (ws.take j) Y) ++ List.replicate (N - ofi - rm) z8)) (fun vi _ => 4 - (intOf vi).toNat)
                case atStart => exact ⟨0, by omega, by go_num, HQY.out, hxy, y0, HRY.out⟩
                case round =>
                  obtain ⟨b, hb, rfl, hq, hlx, z0, hrow⟩ := hrel
                  have sc := (hq.facts.1 _ _ hg2).trans HSC.out
                  have hgr : g < wr.heap.size := by omega
                  by_cases hb4' : b < 4
                  · have hd1 : decide ((b : Int) < (4 : Int)) = true := by simp; omega
                    have hd0 : decide (b < 4) = true := by simp; omega
                    have hbi : (b : Int) ≤ 3 := by omega
                    obtain ⟨g', c', e', -, -, -, -, hcell, hfz⟩ := own_at hrow (by omega)
                    cases e'
                    obtain ⟨u, hu⟩ : ∃ u, (putL v (ofi + an) b (wantsT T (ofi : Nat) (ws.take j) Y) ++ List.replicate (N - ofi - rm) z8)[ofi + an + b]? = some u := ⟨_, List.getElem?_eq_getElem (by have := hrow.1; omega)⟩
                    have yc := hcell _ u hu
                    have yf := hfz (ofi + an + b)
                    have hokN : (ofi : Int) + (an : Int) + (b : Int) < (N : Int) := by omega
                    have hokN2 : ofi + an + b < N := by omega
                    have hvv := HV9.out
                    have HQB := hide hq
                    have HRB := hide hrow
                    clear hq hrow
                    clear hcell hfz hu
                    go_wp2_with fail
                    go_region
                    go_wp2_with fail
                    clear sc yc yf hokN hokN2
                    go_roundw
                    case rel => exact ⟨b + 1, by omega, by go_num, (HQB.out.set (Nat.le_refl _) _).drew, by simp; omega, (World.cell?_setCell_other wr ⟨w1.heap.size, ofi + an + b, none⟩ ⟨wx.heap.size, 0, none⟩ _ (fun e => by injection e with e1; omega)).trans z0, by
                      have h := own_set HRB.out (ofi + an + b) (pbyte v b)
                      rw [List.set_append_left _ _ (by rw [putL_len, wantsT_len, HYl.out]; omega)] at h
                      exact own_q h (Q.refl _).drew⟩
                    case measure => simp [intOf] <;> omega
                  · have hd1 : decide ((b : Int) < (4 : Int)) = false := by simp; omega
                    have hd0 : decide (b < 4) = false := by simp; omega
                    obtain rfl : b = 4 := by omega
                    have E := hide (wantsT_step (T := T) (st := (ofi : Nat)) (L := Y) HG4.out)
                    go_wp2_with fail
                    go_roundw
                    case rel => exact ⟨j + 1, by omega, by go_num, hq, by omega, by rw [E.out]; dsimp only; rw [HAQ.out, HPW.out]; exact hrow⟩
                    case measure => simp [intOf] <;> omega
            · have hd1 : decide ((j : Int) < (n2 : Int)) = false := by simp; omega
              have hd0 : decide (j < n2) = false := by simp; omega
              obtain rfl : j = n2 := by omega
              have E := hide (show R = imgT T (offF (os.take (i + 1))) (os.drop (i + 1)) (wantsT T (ofi : Nat) ws Y) by rw [HRR.out, imgT_step G1.out, HOS.out]; dsimp only; rw [HRM.out, HY.out])
              have E2 := hide (show ws.take j = ws from List.take_of_length_le (by rw [HTL.out]; exact Nat.le_refl _))
              have E3 := hide (show N - ofi - rm = N - offF (os.take (i + 1)) by rw [HOS.out]; omega)
              go_wp2_with fail
              go_roundw
              case rel => exact ⟨i + 1, _, by omega, by go_num, E.out, by rw [wantsT_len, HYl.out, HOS.out], HQJ.out, hltx, by rw [← E3.out]; have h := HRJ.out; rw [E2.out] at h; exact h⟩
              case measure => simp [intOf] <;> omega
    · have hd1 : decide ((i : Int) < (n : Int)) = false := by simp; omega
      have hd0 : decide (i < n) = false := by simp; omega
      obtain rfl : i = n := by omega
      have E := hide (show R = X by rw [HRR.out, List.drop_eq_nil_of_le (by rw [HL.out]; exact Nat.le_refl _)]; rfl)
      have E2 := hide (show N - ofi = 0 by rw [← HOE.out, HNN.out]; omega)
      go_wp2_with fail
      go_ret
      exact ⟨_, rfl, by rw [E.out]; have h := HRow.out; rw [E2.out] at h; simp at h; exact own_lower h HQ1.out.size, HQ1.out.trans HQ.out⟩
end Go.Proofs.Ytiilkiggfjpibaa

namespace Go.Proofs.Ytiilkiggfjpibaa
open Go.RowKit LK
set_option linter.unusedVariables false
set_option linter.unusedSimpArgs false
def can (o : OV) : OV := (⟨none, o.1.n, 0, o.1.xs⟩, ⟨none, 0, 0, o.2.1.xs⟩, ⟨none, 0, 0, o.2.2.xs⟩)
theorem firstErr_can : ∀ os : List OV, firstErrO (os.map can) = firstErrO os
  | [] => rfl
  | o :: r => by
    show firstErrO (can o :: r.map can) = _
    unfold firstErrO
    rw [firstErr_can r]
    rfl
theorem tabF_can : ∀ (os : List OV) (k a : Nat), tabF k a (os.map can) = tabF k a os
  | [], k, a => rfl
  | o :: r, k, a => by
    show tabF k a (can o :: r.map can) = _
    unfold tabF
    rw [tabF_can r]
    rfl
theorem listed_can (os : List OV) : listedO (os.map can) = listedO os := by
  unfold listedO namesF
  rw [List.length_map, firstErr_can, tabF_can]
theorem missL_can (T : Tab) (os : List OV) : missL T (os.map can) = missL T os := by
  unfold missL
  rw [List.flatMap_map]
  rfl
theorem missR_can (os : List OV) : missR (os.map can) = missR os := by
  unfold missR
  rw [listed_can, tabF_can, missL_can]
theorem imgF_can (T : Tab) : ∀ (os : List OV) (a : Nat) (L : List Value), imgF T a (os.map can) L = imgF T a os L
  | [], a, L => rfl
  | o :: r, a, L => by
    show imgF T a (can o :: r.map can) L = _
    unfold imgF
    have e : imgStep T a (can o) L = imgStep T a o L := rfl
    rw [e]
    split
    · rfl
    · exact imgF_can T r _ _
theorem imgR_can (os : List OV) : imgR (os.map can) = imgR os := by
  unfold imgR
  rw [tabF_can, imgF_can]
theorem same_of_can {o p : OV} (h : can o = can p) : SameD o p := by
  unfold can at h
  simp only [Prod.mk.injEq, SlV.mk.injEq, true_and] at h
  exact ⟨h.1.2, h.2.1, h.2.2⟩
set_option maxRecDepth 100000 in
set_option maxHeartbeats 4000000 in
theorem rImage_any (A : Option Addr) (n c : Nat) (os : List OV) (w : World) (hO : ObsR w A n c os) : Calls Try.prog 36 #[.slice A n c] w (ImageP w os) := by
  have hl := hO.sl.len
  have HP := hide (rlisted_any A n c os w hO)
  have HL := hide hl
  have HO := hide hO
  clear hO
  by_cases h0 : listedO os = 0
  · obtain ⟨h8, hval⟩ := listed_zero2 h0
    have HS := hide (fun W hQ => rmissing_any A n c os W (HO.out.up hQ) (by omega) hval)
    have HI := hide (fun W hQ hm => rimage_any A n c os W (HO.out.up hQ) (by omega) hval hm)
    have hml := putT_nil (l := missL (tabF 0 0 os) os)
    have hpl := putT_len (missL (tabF 0 0 os) os)
    have hmll := missL_len (tabF 0 0 os) os (fun o ho => wants_le (hval o ho))
    rw [h0] at HP
    have E0 := hide h0
    have HML := hide hml
    obtain ⟨P, hP⟩ : ∃ P, putT (missL (tabF 0 0 os) os) = P := ⟨_, rfl⟩
    have hPl : P.length ≤ 128 := by rw [← hP]; omega
    rw [hP] at HS HML
    clear h0 hval hl hml hpl hmll
    go_enter Try.func36, Try.ntmps36
    go_wp2_with fail
    refine HP.out.mono ?_
    rintro e w1 ⟨rfl, hq1⟩
    go_wp2_with fail
    refine (HS.out _ hq1).mono ?_
    rintro e w2 ⟨v2, rfl, hown2, hq2⟩
    obtain ⟨A2, c2, rfl, _⟩ := own_form hown2
    have HQ2 := hide (hq1.trans hq2)
    clear hown2
    rcases Nat.eq_zero_or_pos P.length with hz | hz
    · have hd : decide ((0 : Int) < (P.length : Int)) = false := by rw [hz]; rfl
      have hd2 : decide (0 < P.length) = false := by rw [hz]; rfl
      have hnm := missL_nil.1 (HML.out.1 (List.eq_nil_of_length_eq_zero hz))
      have HNM := hide hnm
      clear hnm hz
      go_wp2_with fail
      refine (HI.out w2 HQ2.out HNM.out).mono ?_
      rintro e w3 ⟨v3, rfl, hown3, hq3⟩
      have H3 := hide hown3
      clear hown3
      go_wp2_with fail
      go_ret2
      exact ⟨HQ2.out.trans hq3, .inr ⟨E0.out, .inr ⟨_, v3, _, by unfold imgR; exact imgF_total HNM.out, rfl, own_lower H3.out HQ2.out.size⟩⟩⟩
    · have hd : decide ((0 : Int) < (P.length : Int)) = true := decide_eq_true (by omega)
      have hd2 : decide (0 < P.length) = true := decide_eq_true hz
      have hne : missL (tabF 0 0 os) os ≠ [] := fun e => by have := HML.out.2 e; rw [this] at hz; simp at hz
      have HNE := hide hne
      clear hne hz
      go_wp2_with fail
      go_ret2
      exact ⟨HQ2.out, .inr ⟨E0.out, .inl ⟨by unfold imgR; exact imgF_none_iff.2 HNE.out, rfl⟩⟩⟩
  · have dz : ((listedO os : Int) != 0) = true := by simp; omega
    have HNE := hide h0
    clear h0 hl
    go_enter Try.func36, Try.ntmps36
    go_wp2_with fail
    refine HP.out.mono ?_
    rintro e w1 ⟨rfl, hq1⟩
    go_wp2_with fail
    go_ret2
    exact ⟨hq1, .inl ⟨HNE.out, rfl⟩⟩
end Go.Proofs.Ytiilkiggfjpibaa

namespace Go.Proofs.Ytiilkiggfjpibaa
open Go.RowKit LK
set_option linter.unusedVariables false
set_option linter.unusedSimpArgs false
def In8 (xs : List Int) : Prop := ∀ x ∈ xs, 0 ≤ x ∧ x < 256
def Byt (L : List Value) : Prop := ∃ xs : List Int, L = xs.map (Value.int .u8) ∧ In8 xs
theorem Byt.app {L M : List Value} (h : Byt L) (k : Byt M) : Byt (L ++ M) := by
  obtain ⟨x, rfl, hx⟩ := h
  obtain ⟨y, rfl, hy⟩ := k
  exact ⟨x ++ y, by simp, fun z hz => (List.mem_append.1 hz).elim (hx z) (hy z)⟩
theorem Byt.set {L : List Value} (h : Byt L) (i : Nat) {v : Int} (hv : 0 ≤ v ∧ v < 256) : Byt (L.set i (.int .u8 v)) := by
  obtain ⟨x, rfl, hx⟩ := h
  exact ⟨x.set i v, by rw [List.map_set], fun z hz => (List.mem_or_eq_of_mem_set hz).elim (hx z) (fun e => e ▸ hv)⟩
theorem Byt.put {v o : Nat} : ∀ {k : Nat} {L : List Value}, Byt L → Byt (putL v o k L)
  | 0, L, h => h
  | k + 1, L, h => (Byt.put (k := k) h).set (o + k) (v := ((v / 2 ^ (8 * k) % 256 : Nat) : Int)) (by omega)
theorem Byt.wants {T : Tab} {st : Int} : ∀ {ws : List Wnt} {L M : List Value}, Byt L → wantsL T st ws L = some M → Byt M
  | [], L, M, h, e => by simp [wantsL] at e; rw [← e]; exact h
  | x :: r, L, M, h, e => by
    unfold wantsL at e
    split at e
    · cases e
    · exact Byt.wants (Byt.put h) e
theorem Byt.img {T : Tab} : ∀ {os : List OV} {a : Nat} {L M : List Value}, (∀ o ∈ os, In8 o.1.xs) → Byt L → imgF T a os L = some M → Byt M
  | [], a, L, M, _, h, e => by simp [imgF] at e; rw [← e]; exact h
  | o :: r, a, L, M, ho, h, e => by
    unfold imgF at e
    split at e
    · cases e
    · rename_i L' e'
      refine Byt.img (fun p hp => ho p (List.mem_cons_of_mem _ hp)) ?_ e
      unfold imgStep at e'
      exact Byt.wants ((h.app ⟨_, rfl, ho o (List.mem_cons_self ..)⟩).app ⟨List.replicate (room o.1.n - o.1.n) 0, by rw [List.map_replicate], fun x hx => by rw [(List.mem_replicate.1 hx).2]; omega⟩) e'
def imgE (os : List OV) : Nat := if listedO os ≠ 0 then listedO os else if imgR os = none then 4 else 0
def imgX (os : List OV) : List Value := if listedO os ≠ 0 then [] else (imgR os).getD []
theorem imgE_can (os : List OV) : imgE (os.map can) = imgE os := by unfold imgE; rw [listed_can, imgR_can]
theorem imgX_can (os : List OV) : imgX (os.map can) = imgX os := by unfold imgX; rw [listed_can, imgR_can]
theorem imgE_le (os : List OV) : imgE os ≤ 5 := by
  have := listedO_le os
  unfold imgE
  split
  · exact this
  · split <;> omega
theorem img_told {w w' : World} {os : List OV} {e : Ending} (h : ImageP w os e w') (ho : ∀ o ∈ os, In8 o.1.xs) :
    ∃ v xs, e = .returned (.tuple #[v, .int .i64 (imgE os : Nat)]) ∧ w'.ownsRow w.heap.size 5 1 v xs.length (xs.map (Value.int .u8)) ∧ In8 xs ∧ imgX os = xs.map (Value.int .u8) ∧ Q w w' := by
  obtain ⟨hq, hc⟩ := h
  rcases hc with ⟨hne, rfl⟩ | ⟨h0, ⟨hn, rfl⟩ | ⟨L, v, N, hs, rfl, hown⟩⟩
  · exact ⟨_, [], by unfold imgE; rw [if_pos hne], World.ownsRow_nil _ _ _ _, fun x hx => (by cases hx), by unfold imgX; rw [if_pos hne]; rfl, hq⟩
  · exact ⟨_, [], by unfold imgE; rw [if_neg (by simp [h0]), if_pos hn]; rfl, World.ownsRow_nil _ _ _ _, fun x hx => (by cases hx), by unfold imgX; rw [if_neg (by simp [h0]), hn]; rfl, hq⟩
  · obtain ⟨xs, rfl, hx⟩ := Byt.img ho ⟨[], rfl, fun x hx => (by cases hx)⟩ (show imgF (tabF 0 0 os) 0 os [] = some L from hs)
    have hl : xs.length = N := by have := hown.1; simpa using this
    subst hl
    exact ⟨v, xs, by unfold imgE; rw [if_neg (by simp [h0]), hs]; rfl, hown, hx, by unfold imgX; rw [if_neg (by simp [h0]), hs]; rfl, hq⟩
theorem flat8 (xs : List Int) : xs.flatMap (encI .u8) = xs.map (Value.int .u8) := by
  induction xs with
  | nil => rfl
  | cons x r ih => rw [List.flatMap_cons, ih]; rfl
/-- a row of the call's own, as a slice that reads as bytes -/
theorem sl_own8 {w : World} {B : Nat} {v : Value} {xs : List Int} (h : w.ownsRow B 5 1 v xs.length (xs.map (Value.int .u8))) : ∃ A c, v = .slice A xs.length c ∧ Sl 1 (encI .u8) w A xs.length c xs := by
  obtain ⟨A, c, rfl, _⟩ := own_form h
  exact ⟨A, c, rfl, Sl.own (by rw [flat8]; exact h) (fun _ => rfl) (by decide)⟩
theorem miss_none {os : List OV} (h : imgE os = 0) : missR os = [] := by
  unfold imgE at h
  split at h
  · rename_i h1; exact absurd h h1
  · rename_i h1
    split at h
    · cases h
    · rename_i h2
      unfold missR
      rw [if_pos (by omega)]
      refine putT_nil.2 ?_
      exact Classical.byContradiction fun hne => h2 (imgF_none_iff.2 hne)
theorem missR_len {os : List OV} : (missR os).length ≤ 128 := by
  unfold missR
  split
  · rename_i h0
    obtain ⟨h8, hv⟩ := listed_zero2 h0
    have a := putT_len (missL (tabF 0 0 os) os)
    have b := missL_len (tabF 0 0 os) os (fun o ho => wants_le (hv o ho))
    omega
  · simp
theorem own_other {w w' : World} {B e s n B' e' s' n' : Nat} {v v' : Value} {xs xs' : List Value} (h : w.ownsRow B e s v n xs) (k : w.ownsRow B' e' s' v' n' xs') (hg : w.grownBy w' v'.ownBlock) (he : e ≠ e') : w'.ownsRow B e s v n xs := by
  refine h.kept hg ?_
  cases hv : v.ownBlock with
  | none => exact .inl rfl
  | some g =>
    refine .inr fun e2 => ?_
    obtain ⟨c1, h1⟩ := own_blk h hv
    obtain ⟨c2, h2⟩ := own_blk k e2.symm
    rw [h1] at h2
    injection h2 with h2
    injection h2 with _ h2
    exact he h2
/-- an object whose parts are rows of the call's own -/
def OwnO (w : World) (B : Nat) (p : OV) : Prop := w.ownsRow B 5 1 p.1.val p.1.n (p.1.xs.flatMap (encI .u8)) ∧ w.ownsRow B 94 2 p.2.1.val p.2.1.n (p.2.1.xs.flatMap encSym) ∧ w.ownsRow B 97 3 p.2.2.val p.2.2.n (p.2.2.xs.flatMap encWnt)
theorem OwnO.q {w w' : World} {B : Nat} {p : OV} (h : OwnO w B p) (hq : Q w w') : OwnO w' B p := ⟨own_q h.1 hq, own_q h.2.1 hq, own_q h.2.2 hq⟩
theorem OwnO.other {w w' : World} {B B' n' : Nat} {p : OV} {v' : Value} {xs' : List Value} (h : OwnO w B p) (k : w.ownsRow B' 34 3 v' n' xs') (hg : w.grownBy w' v'.ownBlock) : OwnO w' B p :=
  ⟨own_other h.1 k hg (by decide), own_other h.2.1 k hg (by decide), own_other h.2.2 k hg (by decide)⟩
theorem OwnO.lower {w : World} {B B' : Nat} {p : OV} (h : OwnO w B p) (hb : B' ≤ B) : OwnO w B' p := ⟨own_lower h.1 hb, own_lower h.2.1 hb, own_lower h.2.2 hb⟩
theorem OwnO.ob {w W : World} {B : Nat} {p o : OV} (h : OwnO w B p) (hc : can p = can o) (ho : ObR W o) : ObR w p := by
  obtain ⟨e0, e1, e2⟩ := same_of_can hc
  have nl : ∀ {B e s n c : Nat} {A : Option Addr} {xs : List Value}, w.ownsRow B e s (.slice A n c) n xs → A = none → n = 0 ∧ c = 0 := fun {B e s n c A xs} h hA => by
    rcases h.2 with ⟨e0, _⟩ | ⟨g, cap, cur, e0, _⟩
    · injection e0 with _ a b; exact ⟨a, b⟩
    · rw [hA] at e0; cases e0
  exact ⟨Sl.own h.1 (fun _ => rfl) (by decide), Sl.own h.2.1 (fun _ => rfl) (by decide), Sl.own h.2.2 (fun _ => rfl) (by decide), nl h.1, nl h.2.1, nl h.2.2, by rw [e0]; exact ho.bok, by rw [e1]; exact ho.sok, by rw [e2]; exact ho.tok⟩
/-- an object out of rows of the call's own -/
theorem ob_own {w : World} {B : Nat} {v0 v1 v2 : Value} {o : OV} (h0 : w.ownsRow B 5 1 v0 o.1.n (o.1.xs.flatMap (encI .u8))) (h1 : w.ownsRow B 94 2 v1 o.2.1.n (o.2.1.xs.flatMap encSym)) (h2 : w.ownsRow B 97 3 v2 o.2.2.n (o.2.2.xs.flatMap encWnt)) :
    ∃ p : OV, can p = can o ∧ v0 = p.1.val ∧ v1 = p.2.1.val ∧ v2 = p.2.2.val ∧ OwnO w B p := by
  obtain ⟨⟨A0, n0, c0, bs⟩, ⟨A1, n1, c1, ss⟩, ⟨A2, n2, c2, ws⟩⟩ := o
  dsimp only at *
  obtain ⟨a0, d0, rfl, _⟩ := own_form h0
  obtain ⟨a1, d1, rfl, _⟩ := own_form h1
  obtain ⟨a2, d2, rfl, _⟩ := own_form h2
  exact ⟨(⟨a0, n0, d0, bs⟩, ⟨a1, n1, d1, ss⟩, ⟨a2, n2, d2, ws⟩), rfl, rfl, rfl, rfl, h0, h1, h2⟩
/-- a list of them -/
theorem obs_own {w W : World} {B : Nat} {A A' : Option Addr} {n c c' : Nat} {ps os : List OV} (hr : w.ownsRow B 34 3 (.slice A' n c') n (ps.flatMap encO)) (hp : ∀ p ∈ ps, OwnO w B p) (hc : ps.map can = os.map can) (ho : ObsR W A n c os) : ObsR w A' n c' ps := by
  refine ⟨Sl.own hr (fun _ => rfl) (by decide), fun hA => ?_, fun p hpm => ?_⟩
  · rcases hr.2 with ⟨e0, _⟩ | ⟨g, cap, cur, e0, _⟩
    · injection e0 with _ a b; exact ⟨a, b⟩
    · rw [hA] at e0; cases e0
  · have : can p ∈ os.map can := by rw [← hc]; exact List.mem_map_of_mem hpm
    obtain ⟨o, hom, e⟩ := List.mem_map.1 this
    exact (hp p hpm).ob e.symm (ho.all o hom)
theorem El_obj : El Try.prog 22 34 3 72 := El.of Try.underlying22 (show (Try.prog.info? 34).map (fun i => (i.zero, i.size, i.bytes)) = some (some (.agg #[.slice none 0 0, .slice none 0 0, .slice none 0 0]), 3, 72) by kernel_rfl) rfl (by decide) (by decide)
theorem one_obj : ∀ o : OV, ∀ u ∈ encO o, u.oneCell' = true := fun o u hu => by
  simp [encO, encV, SlV.val] at hu
  rcases hu with rfl | rfl | rfl <;> rfl
end Go.Proofs.Ytiilkiggfjpibaa
