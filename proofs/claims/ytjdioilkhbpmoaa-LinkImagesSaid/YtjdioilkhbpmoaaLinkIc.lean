/- The walk of the program's Image. Conditions: the objects read as a list. -/
import Derived.Test.YtjdioilkhbpmoaaLinkIb
namespace Go.Proofs.Ytjdioilkhbpmoaa
open Go.RowKit LK
set_option linter.unusedVariables false
theorem firstErr_zero2 : ∀ {os : List OV}, firstErrO os = 0 → ∀ o ∈ os, o.valid = 0
  | [], _, _, ho => by cases ho
  | p :: r, h, o, ho => by
    unfold firstErrO at h
    split at h
    · rename_i hp
      rcases List.mem_cons.1 ho with rfl | ho
      · exact hp
      · exact firstErr_zero2 h o ho
    · rename_i hp
      exact absurd h hp
theorem listed_zero2 {os : List OV} (h : listedO os = 0) : os.length ≤ 8 ∧ ∀ o ∈ os, o.valid = 0 := by
  unfold listedO at h
  split at h
  · omega
  · rename_i h8
    split at h
    · rename_i h1; exact absurd h h1
    · rename_i h1
      exact ⟨by omega, firstErr_zero2 (by omega)⟩
def imgR (os : List OV) : Option (List Value) := imgF (tabF 0 0 os) 0 os []
def ImageP (w : World) (os : List OV) (e : Ending) (w' : World) : Prop :=
  Q w w' ∧ ((listedO os ≠ 0 ∧ e = .returned (.tuple #[.slice none 0 0, .int .i64 (listedO os : Nat)])) ∨ (listedO os = 0 ∧ ((imgR os = none ∧ e = .returned (.tuple #[.slice none 0 0, .int .i64 4])) ∨ ∃ L v N, imgR os = some L ∧ e = .returned (.tuple #[v, .int .i64 0]) ∧ w'.ownsRow w.heap.size 5 1 v N L)))
set_option maxRecDepth 100000 in
set_option maxHeartbeats 4000000 in
theorem Image_any (A : Option Addr) (n c : Nat) (os : List OV) (w : World) (hO : ObsR w A n c os) : Calls Try.prog 30 #[.slice A n c] w (ImageP w os) := by
  have hl := hO.sl.len
  have HP := hide (open_any A n c os w hO)
  have HL := hide hl
  have HO := hide hO
  clear hO hl
  go_enter Try.func30, Try.ntmps30
  go_wp2_with fail
  refine HP.out.mono ?_
  rintro e w1 ⟨hq1, hcase⟩
  rcases hcase with ⟨hne, rfl⟩ | ⟨h0, As, cs, mb, rfl, hown, hmp⟩
  · have dz : ((listedO os : Int) != 0) = true := by simp; omega
    have HNE := hide hne
    clear hne
    go_wp2_with fail
    go_ret2
    exact ⟨hq1.alloc _, .inl ⟨HNE.out, rfl⟩⟩
  · obtain ⟨As', cs', e', h1, hc, _, hr⟩ := own_form hown
    cases e'
    have dz : ((listedO os : Int) != 0) = false := by rw [h0]; rfl
    obtain ⟨w2, hw2⟩ : ∃ w2, w1.alloc (.cells #[.slice A n c, .slice As (n + 1) cs, .map (some mb)] 77) = w2 := ⟨_, rfl⟩
    have hq2 : Q w1 w2 := by rw [← hw2]; exact (Q.refl w1).alloc _
    obtain ⟨h8, hv⟩ := listed_zero2 h0
    have HI := hide (image_any A n c os As cs mb w2 ((HO.out.up hq1).up hq2) (by have := HL.out; omega) hv (hr.up hq2) h1 (hmp.up hq2))
    have hb2 : w2.heap[w1.heap.size]? = some (.cells #[.slice A n c, .slice As (n + 1) cs, .map (some mb)] 77 (0, 0)) := by rw [← hw2]; exact heap_alloc_new w1 _
    have k0 : w2.cell? ⟨w1.heap.size, 0, none⟩ = some (.slice A n c) := cell_blkJ (j := 0) hb2 rfl
    have k1 : w2.cell? ⟨w1.heap.size, 1, none⟩ = some (.slice As (n + 1) cs) := cell_blkJ (j := 1) hb2 rfl
    have k2 : w2.cell? ⟨w1.heap.size, 2, none⟩ = some (.map (some mb)) := cell_blkJ (j := 2) hb2 rfl
    have HW2 := hide hw2
    have H0 := hide h0
    have HQ2 := hide (hq1.trans hq2)
    clear hw2 hv h8 hown hmp hr hb2 h0
    go_wp2_with fail
    rw [HW2.out]
    go_wp2_with fail
    refine HI.out.mono ?_
    rintro e w3 ⟨hq3, hcase⟩
    rcases hcase with ⟨hnn, rfl⟩ | ⟨L, v, N, hsm, rfl, hown3⟩
    · have HN := hide hnn
      clear hnn
      go_wp2_with fail
      go_ret2
      exact ⟨HQ2.out.trans hq3, .inr ⟨H0.out, .inl ⟨HN.out, rfl⟩⟩⟩
    · have HN := hide hsm
      have H3 := hide (own_base2 hown3 HQ2.out.size)
      clear hsm hown3
      go_wp2_with fail
      go_ret2
      exact ⟨HQ2.out.trans hq3, .inr ⟨H0.out, .inr ⟨L, v, N, HN.out, rfl, H3.out⟩⟩⟩
end Go.Proofs.Ytjdioilkhbpmoaa
