/- The walk of the law LinkImages. Conditions: the objects read as a list. -/
import Derived.Test.YtjdioilkhbpmoaaLinkRf
import Derived.Test.YtjdioilkhbpmoaaLinkKn
import Derived.Test.YtjdioilkhbpmoaaLinkLo
namespace Go.Proofs.Ytjdioilkhbpmoaa
open Go.RowKit LK
set_option linter.unusedVariables false
def In8 (xs : List Int) : Prop := ∀ x ∈ xs, 0 ≤ x ∧ x < 256
def Byt (L : List Value) : Prop := ∃ xs : List Int, L = xs.map (Value.int .u8) ∧ In8 xs
theorem Byt.app {L M : List Value} (h : Byt L) (k : Byt M) : Byt (L ++ M) := by
  obtain ⟨x, rfl, hx⟩ := h
  obtain ⟨y, rfl, hy⟩ := k
  exact ⟨x ++ y, by simp, fun z hz => (List.mem_append.1 hz).elim (hx z) (hy z)⟩
theorem Byt.set {L : List Value} (h : Byt L) (i : Nat) {v : Int} (hv : 0 ≤ v ∧ v < 256) : Byt (L.set i (.int .u8 v)) := by
  obtain ⟨x, rfl, hx⟩ := h
  exact ⟨x.set i v, by rw [List.map_set], fun z hz => (List.mem_or_eq_of_mem_set hz).elim (hx z) (fun e => e ▸ hv)⟩
theorem Byt.put {v o : Nat} : ∀ {k : Nat} {L : List Value}, Byt L → Byt (putL v o k L)
  | 0, L, h => h
  | k + 1, L, h => (Byt.put (k := k) h).set (o + k) (v := ((v / 2 ^ (8 * k) % 256 : Nat) : Int)) (by omega)
theorem Byt.wants {T : Tab} {st : Int} : ∀ {ws : List Wnt} {L M : List Value}, Byt L → wantsL T st ws L = some M → Byt M
  | [], L, M, h, e => by simp [wantsL] at e; rw [← e]; exact h
  | x :: r, L, M, h, e => by
    unfold wantsL at e
    split at e
    · cases e
    · exact Byt.wants (Byt.put h) e
theorem Byt.img {T : Tab} : ∀ {os : List OV} {a : Nat} {L M : List Value}, (∀ o ∈ os, In8 o.1.xs) → Byt L → imgF T a os L = some M → Byt M
  | [], a, L, M, _, h, e => by simp [imgF] at e; rw [← e]; exact h
  | o :: r, a, L, M, ho, h, e => by
    unfold imgF at e
    split at e
    · cases e
    · rename_i L' e'
      refine Byt.img (fun p hp => ho p (List.mem_cons_of_mem _ hp)) ?_ e
      unfold imgStep at e'
      exact Byt.wants ((h.app ⟨_, rfl, ho o (List.mem_cons_self ..)⟩).app ⟨List.replicate (room o.1.n - o.1.n) 0, by rw [List.map_replicate], fun x hx => by rw [(List.mem_replicate.1 hx).2]; omega⟩) e'
def imgE (os : List OV) : Nat := if listedO os ≠ 0 then listedO os else if imgR os = none then 4 else 0
def imgX (os : List OV) : List Value := if listedO os ≠ 0 then [] else (imgR os).getD []
theorem imgE_can (os : List OV) : imgE (os.map can) = imgE os := by unfold imgE; rw [listed_can, imgR_can]
theorem imgX_can (os : List OV) : imgX (os.map can) = imgX os := by unfold imgX; rw [listed_can, imgR_can]
theorem imgE_le (os : List OV) : imgE os ≤ 5 := by
  have := listedO_le os
  unfold imgE
  split
  · exact this
  · split <;> omega
theorem img_told {w w' : World} {os : List OV} {e : Ending} (h : ImageP w os e w') (ho : ∀ o ∈ os, In8 o.1.xs) :
    ∃ v xs, e = .returned (.tuple #[v, .int .i64 (imgE os : Nat)]) ∧ w'.ownsRow w.heap.size 5 1 v xs.length (xs.map (Value.int .u8)) ∧ In8 xs ∧ imgX os = xs.map (Value.int .u8) ∧ Q w w' := by
  obtain ⟨hq, hc⟩ := h
  rcases hc with ⟨hne, rfl⟩ | ⟨h0, ⟨hn, rfl⟩ | ⟨L, v, N, hs, rfl, hown⟩⟩
  · exact ⟨_, [], by unfold imgE; rw [if_pos hne], World.ownsRow_nil _ _ _ _, fun x hx => (by cases hx), by unfold imgX; rw [if_pos hne]; rfl, hq⟩
  · exact ⟨_, [], by unfold imgE; rw [if_neg (by simp [h0]), if_pos hn]; rfl, World.ownsRow_nil _ _ _ _, fun x hx => (by cases hx), by unfold imgX; rw [if_neg (by simp [h0]), hn]; rfl, hq⟩
  · obtain ⟨xs, rfl, hx⟩ := Byt.img ho ⟨[], rfl, fun x hx => (by cases hx)⟩ (show imgF (tabF 0 0 os) 0 os [] = some L from hs)
    have hl : xs.length = N := by have := hown.1; simpa using this
    subst hl
    exact ⟨v, xs, by unfold imgE; rw [if_neg (by simp [h0]), hs]; rfl, hown, hx, by unfold imgX; rw [if_neg (by simp [h0]), hs]; rfl, hq⟩
theorem flat8 (xs : List Int) : xs.flatMap (encI .u8) = xs.map (Value.int .u8) := by
  induction xs with
  | nil => rfl
  | cons x r ih => rw [List.flatMap_cons, ih]; rfl
/-- a row of the call's own, as a slice that reads as bytes -/
theorem sl_own8 {w : World} {B : Nat} {v : Value} {xs : List Int} (h : w.ownsRow B 5 1 v xs.length (xs.map (Value.int .u8))) : ∃ A c, v = .slice A xs.length c ∧ Sl 1 (encI .u8) w A xs.length c xs := by
  obtain ⟨A, c, rfl, _⟩ := own_form h
  exact ⟨A, c, rfl, Sl.own (by rw [flat8]; exact h) (fun _ => rfl) (by decide)⟩
theorem miss_none {os : List OV} (h : imgE os = 0) : missR os = [] := by
  unfold imgE at h
  split at h
  · rename_i h1; exact absurd h h1
  · rename_i h1
    split at h
    · cases h
    · rename_i h2
      unfold missR
      rw [if_pos (by omega)]
      refine putT_nil.2 ?_
      exact Classical.byContradiction fun hne => h2 (imgF_none_iff.2 hne)
theorem missR_len {os : List OV} : (missR os).length ≤ 128 := by
  unfold missR
  split
  · rename_i h0
    obtain ⟨h8, hv⟩ := listed_zero2 h0
    have a := putT_len (missL (tabF 0 0 os) os)
    have b := missL_len (tabF 0 0 os) os (fun o ho => wants_le (hv o ho))
    omega
  · simp
theorem own_other {w w' : World} {B e s n B' e' s' n' : Nat} {v v' : Value} {xs xs' : List Value} (h : w.ownsRow B e s v n xs) (k : w.ownsRow B' e' s' v' n' xs') (hg : w.grownBy w' v'.ownBlock) (he : e ≠ e') : w'.ownsRow B e s v n xs := by
  refine h.kept hg ?_
  cases hv : v.ownBlock with
  | none => exact .inl rfl
  | some g =>
    refine .inr fun e2 => ?_
    obtain ⟨c1, h1⟩ := own_blk h hv
    obtain ⟨c2, h2⟩ := own_blk k e2.symm
    rw [h1] at h2
    injection h2 with h2
    injection h2 with _ h2
    exact he h2
/-- an object whose parts are rows of the call's own -/
def OwnO (w : World) (B : Nat) (p : OV) : Prop := w.ownsRow B 5 1 p.1.val p.1.n (p.1.xs.flatMap (encI .u8)) ∧ w.ownsRow B 72 2 p.2.1.val p.2.1.n (p.2.1.xs.flatMap encSym) ∧ w.ownsRow B 74 3 p.2.2.val p.2.2.n (p.2.2.xs.flatMap encWnt)
theorem OwnO.q {w w' : World} {B : Nat} {p : OV} (h : OwnO w B p) (hq : Q w w') : OwnO w' B p := ⟨own_q h.1 hq, own_q h.2.1 hq, own_q h.2.2 hq⟩
theorem OwnO.other {w w' : World} {B B' n' : Nat} {p : OV} {v' : Value} {xs' : List Value} (h : OwnO w B p) (k : w.ownsRow B' 41 3 v' n' xs') (hg : w.grownBy w' v'.ownBlock) : OwnO w' B p :=
  ⟨own_other h.1 k hg (by decide), own_other h.2.1 k hg (by decide), own_other h.2.2 k hg (by decide)⟩
theorem OwnO.lower {w : World} {B B' : Nat} {p : OV} (h : OwnO w B p) (hb : B' ≤ B) : OwnO w B' p := ⟨own_lower h.1 hb, own_lower h.2.1 hb, own_lower h.2.2 hb⟩
theorem OwnO.ob {w W : World} {B : Nat} {p o : OV} (h : OwnO w B p) (hc : can p = can o) (ho : ObR W o) : ObR w p := by
  obtain ⟨e0, e1, e2⟩ := same_of_can hc
  have nl : ∀ {B e s n c : Nat} {A : Option Addr} {xs : List Value}, w.ownsRow B e s (.slice A n c) n xs → A = none → n = 0 ∧ c = 0 := fun {B e s n c A xs} h hA => by
    rcases h.2 with ⟨e0, _⟩ | ⟨g, cap, cur, e0, _⟩
    · injection e0 with _ a b; exact ⟨a, b⟩
    · rw [hA] at e0; cases e0
  exact ⟨Sl.own h.1 (fun _ => rfl) (by decide), Sl.own h.2.1 (fun _ => rfl) (by decide), Sl.own h.2.2 (fun _ => rfl) (by decide), nl h.1, nl h.2.1, nl h.2.2, by rw [e0]; exact ho.bok, by rw [e1]; exact ho.sok, by rw [e2]; exact ho.tok⟩
/-- an object out of rows of the call's own -/
theorem ob_own {w : World} {B : Nat} {v0 v1 v2 : Value} {o : OV} (h0 : w.ownsRow B 5 1 v0 o.1.n (o.1.xs.flatMap (encI .u8))) (h1 : w.ownsRow B 72 2 v1 o.2.1.n (o.2.1.xs.flatMap encSym)) (h2 : w.ownsRow B 74 3 v2 o.2.2.n (o.2.2.xs.flatMap encWnt)) :
    ∃ p : OV, can p = can o ∧ v0 = p.1.val ∧ v1 = p.2.1.val ∧ v2 = p.2.2.val ∧ OwnO w B p := by
  obtain ⟨⟨A0, n0, c0, bs⟩, ⟨A1, n1, c1, ss⟩, ⟨A2, n2, c2, ws⟩⟩ := o
  dsimp only at *
  obtain ⟨a0, d0, rfl, _⟩ := own_form h0
  obtain ⟨a1, d1, rfl, _⟩ := own_form h1
  obtain ⟨a2, d2, rfl, _⟩ := own_form h2
  exact ⟨(⟨a0, n0, d0, bs⟩, ⟨a1, n1, d1, ss⟩, ⟨a2, n2, d2, ws⟩), rfl, rfl, rfl, rfl, h0, h1, h2⟩
/-- a list of them -/
theorem obs_own {w W : World} {B : Nat} {A A' : Option Addr} {n c c' : Nat} {ps os : List OV} (hr : w.ownsRow B 41 3 (.slice A' n c') n (ps.flatMap encO)) (hp : ∀ p ∈ ps, OwnO w B p) (hc : ps.map can = os.map can) (ho : ObsR W A n c os) : ObsR w A' n c' ps := by
  refine ⟨Sl.own hr (fun _ => rfl) (by decide), fun hA => ?_, fun p hpm => ?_⟩
  · rcases hr.2 with ⟨e0, _⟩ | ⟨g, cap, cur, e0, _⟩
    · injection e0 with _ a b; exact ⟨a, b⟩
    · rw [hA] at e0; cases e0
  · have : can p ∈ os.map can := by rw [← hc]; exact List.mem_map_of_mem hpm
    obtain ⟨o, hom, e⟩ := List.mem_map.1 this
    exact (hp p hpm).ob e.symm (ho.all o hom)
theorem El_obj : El Try.prog 22 41 3 72 := El.of Try.underlying22 (show (Try.prog.info? 41).map (fun i => (i.zero, i.size, i.bytes)) = some (some (.agg #[.slice none 0 0, .slice none 0 0, .slice none 0 0]), 3, 72) by kernel_rfl) rfl (by decide) (by decide)
theorem one_obj : ∀ o : OV, ∀ u ∈ encO o, u.oneCell' = true := fun o u hu => by
  simp [encO, encV, SlV.val] at hu
  rcases hu with rfl | rfl | rfl <;> rfl
end Go.Proofs.Ytjdioilkhbpmoaa
