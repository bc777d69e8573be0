/- The walk of slices.Clone on objects. Conditions: the objects read as such. -/
import Derived.Test.YtiilkiggfjpibaaLinkVd
namespace Go.Proofs.Ytiilkiggfjpibaa
open Go.RowKit LK
set_option linter.unusedVariables false
set_option linter.unusedSimpArgs false
set_option maxRecDepth 100000 in
set_option maxHeartbeats 1000000 in
theorem CloneO_any (A : Option Addr) (n c : Nat) (os : List OV) (w : World) (hO : ObsR w A n c os) (hn : n ≤ 8) : Calls Try.prog 84 #[.slice A n c] w fun e w' => ∃ v, e = .returned v ∧ w'.ownsRow w.heap.size 34 3 v n (os.flatMap encO) ∧ Q w w' := by
  have hl := hO.sl.len
  rcases A with _ | ad
  · obtain ⟨h1, h2⟩ := hO.nil_ rfl
    subst h1
    subst h2
    have : os = [] := List.eq_nil_of_length_eq_zero hl
    subst this
    have kn := fun (W : World) (a : Option Addr) (n c n' c' : Nat) => Lib.run_eql_slice_nil (P := Try.prog) W 22 _ a n c n' c' Try.underlying22
    go_enter Try.func84, Try.ntmps84
    go_wp2_with fail
    go_ret
    exact ⟨_, rfl, World.ownsRow_nil _ _ _ _, Q.refl _⟩
  · have HB := hide hO
    have HL := hide hl
    have ho := own_lit0 w w.heap.size 34 3 w.heap.size rfl (Nat.le_refl _)
    have HO := hide ho
    clear hO hl ho
    have kn := fun (W : World) (a : Option Addr) (n c n' c' : Nat) => Lib.run_eql_slice_nil (P := Try.prog) W 22 _ a n c n' c' Try.underlying22
    go_enter Try.func84, Try.ntmps84
    go_wp2_with (at_builtin; go_loud (refine wpList_appnew rfl El_obj _ _ rfl rfl rfl HO.out (fun h => (by cases h)) ?_ (HB.out.sl.rd.up ((Q.refl w).alloc _)) (one_cell one_obj _) ?_ ?_ ?_; (focus (rw [flatMap_length (k := 3) (fun _ => rfl), HL.out])); (focus omega); (focus (simp)); intro v5 w5 hv5 hq5; have HV5 := hide hv5; have HQ5 := hide (show Q w w5 from ((Q.refl w).alloc _).trans hq5); clear hv5 hq5))
    go_ret
    exact ⟨_, rfl, HV5.out, HQ5.out⟩
end Go.Proofs.Ytiilkiggfjpibaa
