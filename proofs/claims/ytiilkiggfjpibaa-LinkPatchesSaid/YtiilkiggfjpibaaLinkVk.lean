/- slices.SortFunc on stretches, at a row of the call's own: a permutation that ascends by the starts. Conditions: as each theorem says. -/
import Derived.Test.YtiilkiggfjpibaaLinkVj
import Derived.Test.YtiilkiggfjpibaaSrt
namespace Go.Proofs.Ytiilkiggfjpibaa
open Go.RowKit LK
set_option linter.unusedVariables false
set_option linter.unusedSimpArgs false
abbrev St := Fin 65536 × Fin 65536
def encP (x : St) : List Value := [.int .i64 (x.1.val : Nat), .int .i64 (x.2.val : Nat)]
def cfP (x y : St) : Int := (x.1.val : Int) - (y.1.val : Int)
theorem len_encP (x : St) : (encP x).length = 2 := rfl
theorem one_encP (x : St) : ∀ v ∈ encP x, v.oneCell' = true := fun v hv => by simp [encP] at hv; rcases hv with rfl | rfl <;> rfl
theorem cmpP (x y : St) (W : World) : Calls Try.prog 88 #[.agg #[.int .i64 (x.1.val : Nat), .int .i64 (x.2.val : Nat)], .agg #[.int .i64 (y.1.val : Nat), .int .i64 (y.2.val : Nat)]] W fun e w' => e = .returned (.int .i64 (cfP x y)) ∧ ∃ q os', w' = Go.Sort.grow (W.drewN q) os' := by
  obtain ⟨⟨a, ha⟩, ⟨b, hb⟩⟩ := x
  obtain ⟨⟨c, hc⟩, ⟨d, hd⟩⟩ := y
  have ha' : (a : Int) < 65536 := by omega
  have hc' : (c : Int) < 65536 := by omega
  unfold cfP
  dsimp only
  go_enter Try.func88, Try.ntmps88
  go_wp2_with fail
  go_ret
  exact ⟨rfl, 0, _, by rw [Go.Sort.alloc_eq_grow, Go.Sort.alloc_eq_grow, Go.Sort.grow_grow]; rfl⟩
theorem swoP : Go.Sort.SWO (Go.Proofs.ltOf cfP) where
  irrefl x := by simp [Go.Proofs.ltOf, cfP]
  trans x y z h1 h2 := by
    have a : cfP x y < 0 := of_decide_eq_true h1
    have b : cfP y z < 0 := of_decide_eq_true h2
    exact decide_eq_true (by unfold cfP at *; omega)
  ntrans x y z h1 h2 := by
    have a : ¬ cfP x y < 0 := of_decide_eq_false h1
    have b : ¬ cfP y z < 0 := of_decide_eq_false h2
    exact decide_eq_false (by unfold cfP at *; omega)
theorem SortF_own {w : World} {base g cap : Nat} {ss : List St} (h : w.ownsRow base 74 2 (.slice (some ⟨g, 0, none⟩) ss.length cap) ss.length (ss.flatMap encP)) (hl : ss.length ≤ 1000000) :
    Calls Try.prog 87 #[.slice (some ⟨g, 0, none⟩) ss.length cap, .func (.func 88) #[] #[]] w fun e w' => e = .returned (.tuple #[]) ∧ w.grownBy w' (some g) ∧ ∃ ts : List St, ts.Perm ss ∧ ts.Pairwise (fun a b => a.1.val ≤ b.1.val) ∧ w'.ownsRow base 74 2 (.slice (some ⟨g, 0, none⟩) ss.length cap) ss.length (ts.flatMap encP) := by
  rcases h.2 with ⟨e0, _⟩ | ⟨g', cap', cur, e0, hg, hh, hn, hc, hs, ht⟩
  · cases e0
  · cases e0
    have hfl : (ss.flatMap encP).length = ss.length * 2 := flatMap_length (k := 2) len_encP ss
    have hH : Go.Sort.HoldsK encP 2 w g 0 ss.toArray := by
      unfold Go.Sort.HoldsK
      rw [flatK_flat encP 2 len_encP ss]
      exact holds_blk hh (by rw [hfl]; exact ht)
    have eg : ∀ args w, (callFunc 88 args).run Try.prog w = .ok (.enter 88 args) w := enters_of Try.func88 (by kernel_rfl) rfl
    refine (Try.slices_SortFunc 2 Try.isAgg74 Try.sizeOf74 encP len_encP one_encP cfP swoP 88 #[] g 0 cap ss.toArray w eg (fun _ _ _ _ x y => cmpP x y _) hH (Array.getElem?_eq_some_iff.1 hh).1 (by simp; omega)).mono ?_
    rintro e w' ⟨rfl, d', n, os, hp, hsd, rfl⟩
    obtain ⟨h1, ts, h2, h3, h4⟩ := sorted_blk (cf := cfP) (n := n) (os := os) len_encP hg hh hn hc hs hp hsd
    exact ⟨rfl, h1, ts, h2, h3.imp fun h => by unfold cfP at h; omega, h4⟩
end Go.Proofs.Ytiilkiggfjpibaa
