/- The walk of the reference's Copy: an object in new memory. Conditions: the object reads as one. -/
import Derived.Test.YtjdioilkhbpmoaaLinkIa
import Derived.Test.YtjdioilkhbpmoaaLinkM
import Derived.Test.YtjdioilkhbpmoaaRi
namespace Go.Proofs.Ytjdioilkhbpmoaa
open Go.RowKit LK
set_option linter.unusedVariables false
theorem El_sym : El Try.prog 38 72 2 24 := El.of Try.underlying38 (show (Try.prog.info? 72).map (fun i => (i.zero, i.size, i.bytes)) = some (some (.agg #[.string ByteArray.empty, .int .i64 0]), 2, 24) by kernel_rfl) rfl (by decide) (by decide)
theorem El_wnt : El Try.prog 39 74 3 32 := El.of Try.underlying39 (show (Try.prog.info? 74).map (fun i => (i.zero, i.size, i.bytes)) = some (some (.agg #[.int .i64 0, .int .i64 0, .string ByteArray.empty]), 3, 32) by kernel_rfl) rfl (by decide) (by decide)
theorem one_cell {α : Type} {enc : α → List Value} (h : ∀ x, ∀ u ∈ enc x, u.oneCell' = true) (xs : List α) : ∀ u ∈ xs.flatMap enc, u.oneCell' = true := fun u hu => by
  obtain ⟨x, _, h2⟩ := List.mem_flatMap.1 hu
  exact h x u h2
theorem one_sym : ∀ x : Sym, ∀ u ∈ encSym x, u.oneCell' = true := fun x u hu => by simp [encSym, encS, encI] at hu; rcases hu with rfl | rfl <;> rfl
theorem one_wnt : ∀ x : Wnt, ∀ u ∈ encWnt x, u.oneCell' = true := fun x u hu => by simp [encWnt, encS, encI] at hu; rcases hu with rfl | rfl | rfl <;> rfl
theorem one_b8 : ∀ x : Int, ∀ u ∈ encI .u8 x, u.oneCell' = true := fun x u hu => by simp [encI] at hu; subst hu; rfl
/-- what each operation of the copy's region yields -/
def copyF (B bx : Nat) (o : OV) : Nat → Value → World → Prop
  | 0, v, w => ∃ b, v = .slice b 0 0 ∧ w.ownsRow B 5 1 v 0 []
  | 1, v, _ => v = .pointer (some ⟨bx, 0, none⟩)
  | 2, v, _ => v = .slice o.1.A o.1.n o.1.c
  | 3, v, w => w.ownsRow B 5 1 v o.1.n (o.1.xs.flatMap (encI .u8))
  | 4, v, w => ∃ b, v = .slice b 0 0 ∧ w.ownsRow B 72 2 v 0 []
  | 5, v, _ => v = .pointer (some ⟨bx, 1, none⟩)
  | 6, v, _ => v = .slice o.2.1.A o.2.1.n o.2.1.c
  | 7, v, w => w.ownsRow B 72 2 v o.2.1.n (o.2.1.xs.flatMap encSym)
  | 8, v, w => ∃ b, v = .slice b 0 0 ∧ w.ownsRow B 74 3 v 0 []
  | 9, v, _ => v = .pointer (some ⟨bx, 2, none⟩)
  | 10, v, _ => v = .slice o.2.2.A o.2.2.n o.2.2.c
  | 11, v, w => w.ownsRow B 74 3 v o.2.2.n (o.2.2.xs.flatMap encWnt)
  | 12, v, w => ∃ v0 v1 v2, v = .agg #[v0, v1, v2] ∧ w.ownsRow B 5 1 v0 o.1.n (o.1.xs.flatMap (encI .u8)) ∧ w.ownsRow B 72 2 v1 o.2.1.n (o.2.1.xs.flatMap encSym) ∧ w.ownsRow B 74 3 v2 o.2.2.n (o.2.2.xs.flatMap encWnt)
  | _, _, _ => True
theorem copyF_mono (B bx : Nat) (o : OV) : ∀ i v w1 w2, copyF B bx o i v w1 → Q w1 w2 → copyF B bx o i v w2
  | 0, v, w1, w2, ⟨b, e, h⟩, hq => ⟨b, e, own_q h hq⟩
  | 1, v, w1, w2, h, hq => h
  | 2, v, w1, w2, h, hq => h
  | 3, v, w1, w2, h, hq => own_q h hq
  | 4, v, w1, w2, ⟨b, e, h⟩, hq => ⟨b, e, own_q h hq⟩
  | 5, v, w1, w2, h, hq => h
  | 6, v, w1, w2, h, hq => h
  | 7, v, w1, w2, h, hq => own_q h hq
  | 8, v, w1, w2, ⟨b, e, h⟩, hq => ⟨b, e, own_q h hq⟩
  | 9, v, w1, w2, h, hq => h
  | 10, v, w1, w2, h, hq => h
  | 11, v, w1, w2, h, hq => own_q h hq
  | 12, v, w1, w2, ⟨v0, v1, v2, e, h0, h1, h2⟩, hq => ⟨v0, v1, v2, e, own_q h0 hq, own_q h1 hq, own_q h2 hq⟩
  | _ + 13, v, w1, w2, h, hq => trivial
set_option maxRecDepth 100000 in
set_option maxHeartbeats 400000 in
theorem rCopy_any (o : OV) (w : World) (hO : ObR w o) (h0 : o.1.n ≤ 1000) (h1 : o.2.1.n ≤ 1000) (h2 : o.2.2.n ≤ 1000) :
    Calls Try.prog 29 #[obV o] w fun e w' => ∃ v0 v1 v2, e = .returned (.agg #[v0, v1, v2]) ∧ w'.ownsRow w.heap.size 5 1 v0 o.1.n (o.1.xs.flatMap (encI .u8)) ∧ w'.ownsRow w.heap.size 72 2 v1 o.2.1.n (o.2.1.xs.flatMap encSym) ∧ w'.ownsRow w.heap.size 74 3 v2 o.2.2.n (o.2.2.xs.flatMap encWnt) ∧ Q w w' := by
  have HO := hide hO
  obtain ⟨⟨A0, n0, c0, bs⟩, ⟨A1, n1, c1, ss⟩, ⟨A2, n2, c2, ws⟩⟩ := o
  dsimp only at h0 h1 h2
  unfold obV SlV.val
  clear hO
  obtain ⟨w2, hw2⟩ : ∃ w2, (w.alloc (.cells #[.slice A0 n0 c0, .slice A1 n1 c1, .slice A2 n2 c2] 41)).alloc (.cells #[.slice none 0 0, .slice none 0 0, .slice none 0 0] 41) = w2 := ⟨_, rfl⟩
  have hq2 : Q w w2 := by rw [← hw2]; exact ((Q.refl w).alloc _).alloc _
  have hs2 : w2.heap.size = w.heap.size + 2 := by rw [← hw2]; simp
  have k0 : w2.cell? ⟨w.heap.size, 0, none⟩ = some (.slice A0 n0 c0) := by rw [← hw2]; simp
  have k1 : w2.cell? ⟨w.heap.size, 1, none⟩ = some (.slice A1 n1 c1) := by rw [← hw2]; simp
  have k2 : w2.cell? ⟨w.heap.size, 2, none⟩ = some (.slice A2 n2 c2) := by rw [← hw2]; simp
  have hb2 : w2.heap[w.heap.size + 1]? = some (.cells #[.slice none 0 0, .slice none 0 0, .slice none 0 0] 41 (0, 0)) := by rw [← hw2]; have := heap_alloc_new (w.alloc (.cells #[.slice A0 n0 c0, .slice A1 n1 c1, .slice A2 n2 c2] 41)) (.cells #[.slice none 0 0, .slice none 0 0, .slice none 0 0] 41); simpa using this
  have HW2 := hide hw2
  clear hw2
  go_enter Try.func29, Try.ntmps29
  go_wp2_with fail
  rw [HW2.out]
  refine Ri.made_last (copyF w2.heap.size w.heap.size (⟨A0, n0, c0, bs⟩, ⟨A1, n1, c1, ss⟩, ⟨A2, n2, c2, ws⟩)) (by kernel_rfl) (by kernel_rfl) rfl (by kernel_rfl) rfl (copyF_mono _ _ _) ?_ ?_
  · refine Ri.All.cons ?_ (Ri.All.cons ?_ (Ri.All.cons ?_ (Ri.All.cons ?_ (Ri.All.cons ?_ (Ri.All.cons ?_ (Ri.All.cons ?_ (Ri.All.cons ?_ (Ri.All.cons ?_ (Ri.All.cons ?_ (Ri.All.cons ?_ (Ri.All.cons ?_ (Ri.All.cons ?_ Ri.All.nil))))))))))))
    · refine ⟨rfl, fun f W hq hf A hA hB => ?_⟩
      exact Ri.wp_lit0 El_u8 rfl ⟨_, rfl, own_lit0 W _ _ _ _ rfl (by have h9 : w2.heap.size ≤ W.heap.size := hq.size; omega)⟩
    · refine ⟨rfl, fun f W hq hf A hA hB => ?_⟩
      have e1 := (hB 1 (by kernel_rfl)).trans (show _ = Value.pointer (some ⟨w.heap.size, 0, none⟩) by simp [Act.eval])
      exact Ri.wp_field (f := _) rfl e1 Try.underlying41 rfl (sz := 0) (by kernel_rfl) rfl
    · refine ⟨rfl, fun f W hq hf A hA hB => ?_⟩
      have h1 := hf 1 (by kernel_rfl)
      exact Ri.wp_load1 rfl ((hA 4 1 (by kernel_rfl) (by simp)).trans h1) Try.underlying37 rfl ((hq.facts.1 w.heap.size _ (show _ < w2.heap.size by omega)).trans (show w2.cell? _ = _ from k0)) rfl
    · refine ⟨rfl, fun f W hq hf A hA hB => ?_⟩
      obtain ⟨b, hb, hw⟩ := hf 0 (by kernel_rfl)
      have h2 := hf 2 (by kernel_rfl)
      rw [hb] at hw
      have hob := HO.out.up (hq2.drew.trans hq)
      refine Ri.wp_append El_u8 _ _ rfl ((hA 3 0 (by kernel_rfl) (by simp)).trans hb) ((hA 5 2 (by kernel_rfl) (by simp)).trans h2) hw hob.bn ?_ hob.b.rd (one_cell one_b8 _) (by dsimp only; omega) (by have h9 : w2.heap.size ≤ W.heap.size := hq.size; omega) (fun v w' h => h)
      rw [flatMap_length (k := 1) (fun _ => rfl), hob.b.len]
    · refine ⟨rfl, fun f W hq hf A hA hB => ?_⟩
      exact Ri.wp_lit0 El_sym rfl ⟨_, rfl, own_lit0 W _ _ _ _ rfl (by have h9 : w2.heap.size ≤ W.heap.size := hq.size; omega)⟩
    · refine ⟨rfl, fun f W hq hf A hA hB => ?_⟩
      have e1 := (hB 1 (by kernel_rfl)).trans (show _ = Value.pointer (some ⟨w.heap.size, 0, none⟩) by simp [Act.eval])
      exact Ri.wp_field (f := _) rfl e1 Try.underlying41 rfl (sz := 0) (by kernel_rfl) rfl
    · refine ⟨rfl, fun f W hq hf A hA hB => ?_⟩
      have h1 := hf 5 (by kernel_rfl)
      exact Ri.wp_load1 rfl ((hA 8 5 (by kernel_rfl) (by simp)).trans h1) Try.underlying38 rfl ((hq.facts.1 w.heap.size _ (show _ < w2.heap.size by omega)).trans (show w2.cell? _ = _ from k1)) rfl
    · refine ⟨rfl, fun f W hq hf A hA hB => ?_⟩
      obtain ⟨b, hb, hw⟩ := hf 4 (by kernel_rfl)
      have h2 := hf 6 (by kernel_rfl)
      rw [hb] at hw
      have hob := HO.out.up (hq2.drew.trans hq)
      refine Ri.wp_append El_sym _ _ rfl ((hA 7 4 (by kernel_rfl) (by simp)).trans hb) ((hA 9 6 (by kernel_rfl) (by simp)).trans h2) hw hob.sn ?_ hob.s.rd (one_cell one_sym _) (by dsimp only; omega) (by have h9 : w2.heap.size ≤ W.heap.size := hq.size; omega) (fun v w' h => h)
      rw [flatMap_length (k := 2) (fun _ => rfl), hob.s.len]
    · refine ⟨rfl, fun f W hq hf A hA hB => ?_⟩
      exact Ri.wp_lit0 El_wnt rfl ⟨_, rfl, own_lit0 W _ _ _ _ rfl (by have h9 : w2.heap.size ≤ W.heap.size := hq.size; omega)⟩
    · refine ⟨rfl, fun f W hq hf A hA hB => ?_⟩
      have e1 := (hB 1 (by kernel_rfl)).trans (show _ = Value.pointer (some ⟨w.heap.size, 0, none⟩) by simp [Act.eval])
      exact Ri.wp_field (f := _) rfl e1 Try.underlying41 rfl (sz := 0) (by kernel_rfl) rfl
    · refine ⟨rfl, fun f W hq hf A hA hB => ?_⟩
      have h1 := hf 9 (by kernel_rfl)
      exact Ri.wp_load1 rfl ((hA 12 9 (by kernel_rfl) (by simp)).trans h1) Try.underlying39 rfl ((hq.facts.1 w.heap.size _ (show _ < w2.heap.size by omega)).trans (show w2.cell? _ = _ from k2)) rfl
    · refine ⟨rfl, fun f W hq hf A hA hB => ?_⟩
      obtain ⟨b, hb, hw⟩ := hf 8 (by kernel_rfl)
      have h2 := hf 10 (by kernel_rfl)
      rw [hb] at hw
      have hob := HO.out.up (hq2.drew.trans hq)
      refine Ri.wp_append El_wnt _ _ rfl ((hA 11 8 (by kernel_rfl) (by simp)).trans hb) ((hA 13 10 (by kernel_rfl) (by simp)).trans h2) hw hob.tn ?_ hob.t.rd (one_cell one_wnt _) (by dsimp only; omega) (by have h9 : w2.heap.size ≤ W.heap.size := hq.size; omega) (fun v w' h => h)
      rw [flatMap_length (k := 3) (fun _ => rfl), hob.t.len]
    · refine ⟨rfl, fun f W hq hf A hA hB => ?_⟩
      have h3 := hf 3 (by kernel_rfl)
      have h7 := hf 7 (by kernel_rfl)
      have h11 := hf 11 (by kernel_rfl)
      obtain ⟨a3, d3, e3, _⟩ := own_form h3
      obtain ⟨a7, d7, e7, _⟩ := own_form h7
      obtain ⟨a11, d11, e11, _⟩ := own_form h11
      have E3 := (hA 6 3 (by kernel_rfl) (by simp)).trans e3
      have E7 := (hA 10 7 (by kernel_rfl) (by simp)).trans e7
      have E11 := (hA 14 11 (by kernel_rfl) (by simp)).trans e11
      refine Ri.wp_struct rfl [(0, .slice a3 n0 d3), (1, .slice a7 n1 d7), (2, .slice a11 n2 d11)] ?_ (cells := #[.slice a3 n0 d3, .slice a7 n1 d7, .slice a11 n2 d11]) ?_ ⟨_, _, _, rfl, ?_, ?_, ?_⟩
      · simp [E3, E7, E11]
      · kernel_rfl
      · rw [← e3]; exact h3
      · rw [← e7]; exact h7
      · rw [← e11]; exact h11
  · intro f W hq hf A hA1 hA hB
    obtain ⟨v0, v1, v2, e12, r0, r1, r2⟩ := hf 12 (by simp)
    obtain ⟨a3, d3, e3, _⟩ := own_form r0
    obtain ⟨a7, d7, e7, _⟩ := own_form r1
    obtain ⟨a11, d11, e11, _⟩ := own_form r2
    subst e3
    subst e7
    subst e11
    have E15 := (hA 15 12 (by kernel_rfl) (by simp)).trans e12
    have E2 := (hB 2 (by kernel_rfl)).trans (show _ = Value.pointer (some ⟨w.heap.size + 1, 0, none⟩) by simp [Act.eval])
    have hbW := (hq.below.block (w.heap.size + 1) (by omega)).trans hb2
    have hw3 := setRow_heap W (w.heap.size + 1) _ #[.slice a3 n0 d3, .slice a7 n1 d7, .slice a11 n2 d11] _ _ hbW
    have R0 := hide (own_lower (own_setRow (g := w.heap.size + 1) r0 #[.slice a3 n0 d3, .slice a7 n1 d7, .slice a11 n2 d11] (by omega)) (show w.heap.size ≤ w2.heap.size by omega))
    have R1 := hide (own_lower (own_setRow (g := w.heap.size + 1) r1 #[.slice a3 n0 d3, .slice a7 n1 d7, .slice a11 n2 d11] (by omega)) (show w.heap.size ≤ w2.heap.size by omega))
    have R2 := hide (own_lower (own_setRow (g := w.heap.size + 1) r2 #[.slice a3 n0 d3, .slice a7 n1 d7, .slice a11 n2 d11] (by omega)) (show w.heap.size ≤ w2.heap.size by omega))
    have QQ := hide ((hq2.trans hq).setRow (g := w.heap.size + 1) (by omega) #[.slice a3 n0 d3, .slice a7 n1 d7, .slice a11 n2 d11])
    refine wp_store_row 41 _ _ rfl (w.heap.size + 1) _ E2 E15 41 _ hbW (by kernel_rfl) rfl (by simp [Value.oneCell']) ⟨undef, rfl, ?_⟩
    rw [hA1]
    simp only [Ri.acts, Act.put]
    clear hf hA hB hA1 e12 r0 r1 r2 E15 E2 hbW hq
    go_wp2_with fail
    refine bodyPost_ret (v := .agg #[.slice a3 n0 d3, .slice a7 n1 d7, .slice a11 n2 d11]) (results_cell_row rfl _ _ (w.heap.size + 1) _ _ _ _ (by simp) hw3 Try.underlying41 rfl (by kernel_rfl)) rfl ?_
    exact ⟨_, _, _, rfl, R0.out, R1.out, R2.out, QQ.out⟩
end Go.Proofs.Ytjdioilkhbpmoaa
