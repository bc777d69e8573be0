/- The walks of the program's open, Starts and Find. Conditions: the objects read as a list. -/
import Derived.Test.YtjdioilkhbpmoaaLinkH
namespace Go.Proofs.Ytjdioilkhbpmoaa
open Go.RowKit LK
set_option linter.unusedVariables false
def firstErrO : List OV → Nat
  | [] => 0
  | o :: r => if o.valid = 0 then firstErrO r else o.valid
def listedO (os : List OV) : Nat := if 8 < os.length then 3 else if firstErrO os ≠ 0 then firstErrO os else if dupB [] (namesF os) = true then 5 else 0
theorem firstErr_at : ∀ (os : List OV) (k : Nat) (o : OV), os[k]? = some o → o.valid ≠ 0 → (∀ j p, j < k → os[j]? = some p → p.valid = 0) → firstErrO os = o.valid
  | [], k, o, h, _, _ => by simp at h
  | p :: r, 0, o, h, hv, _ => by
    simp at h
    subst h
    rw [firstErrO, if_neg hv]
  | p :: r, k + 1, o, h, hv, hp => by
    rw [firstErrO, if_pos (hp 0 p (by omega) rfl)]
    exact firstErr_at r k o (by simpa using h) hv (fun j q hj hq => hp (j + 1) q (by omega) (by simpa using hq))
theorem firstErr_none : ∀ os : List OV, (∀ o ∈ os, o.valid = 0) → firstErrO os = 0
  | [], _ => rfl
  | p :: r, h => by rw [firstErrO, if_pos (h p (by simp)), firstErr_none r (fun o ho => h o (by simp [ho]))]
theorem listed_big {os : List OV} (h : 8 < os.length) : listedO os = 3 := by unfold listedO; rw [if_pos h]
theorem listed_err {os : List OV} (h : ¬ 8 < os.length) {e : Nat} (h1 : firstErrO os = e) (h2 : e ≠ 0) : listedO os = e := by unfold listedO; rw [if_neg h, h1, if_pos h2]
theorem listed_dup {os : List OV} (h : ¬ 8 < os.length) (h1 : firstErrO os = 0) (h2 : dupB [] (namesF os) = true) : listedO os = 5 := by unfold listedO; rw [if_neg h, if_neg (by omega), if_pos h2]
theorem listed_ok {os : List OV} (h : ¬ 8 < os.length) (h1 : firstErrO os = 0) (h2 : dupB [] (namesF os) = false) : listedO os = 0 := by unfold listedO; rw [if_neg h, if_neg (by omega), if_neg (by simp [h2])]
theorem valid_le (o : OV) : o.valid ≤ 5 := by
  unfold OV.valid validF
  split
  · omega
  · split
    · omega
    · split <;> omega
theorem own_base {w : World} {B B' : Nat} {e : TypeId} {size : Nat} {v : Value} {n : Nat} {xs : List Value} (h : w.ownsRow B e size v n xs) (hb : B' ≤ B) : w.ownsRow B' e size v n xs := by
  refine ⟨h.1, ?_⟩
  rcases h.2 with h2 | ⟨g, cap, cur, h1, h2, h3⟩
  · exact .inl h2
  · exact .inr ⟨g, cap, cur, h1, Nat.le_trans hb h2, h3⟩
theorem set3_row {w : World} {R : Nat} {cs : Array Value} {ty : TypeId} (hb : w.heap[R]? = some (.cells cs ty (0, 0))) (v0 v1 v2 : Value) :
    (∀ {B e s n : Nat} {v : Value} {xs : List Value}, w.ownsRow B e s v n xs → R < B → (((w.setCell ⟨R, 0, none⟩ v0).setCell ⟨R, 1, none⟩ v1).setCell ⟨R, 2, none⟩ v2).ownsRow B e s v n xs) ∧
    (∀ {mb : Nat} {t : List (ByteArray × Int × Int)}, MpR w mb t → MpR (((w.setCell ⟨R, 0, none⟩ v0).setCell ⟨R, 1, none⟩ v1).setCell ⟨R, 2, none⟩ v2) mb t) := by
  have hg : w.grownBy (((w.setCell ⟨R, 0, none⟩ v0).setCell ⟨R, 1, none⟩ v1).setCell ⟨R, 2, none⟩ v2) (some R) := (grown_cell.trans grown_cell).trans grown_cell
  refine ⟨fun {B e s n v xs} h hB => h.kept hg ?_, fun {mb t} h => h.kept hg ?_⟩
  · cases hv : v.ownBlock with
    | none => exact .inl rfl
    | some g => exact .inr (fun e => by have h1 := (h.lt g hv).1; have h2 := Option.some.inj e; omega)
  · intro e
    obtain ⟨es, cl, hmb⟩ := h.blk
    cases e
    rw [hmb] at hb
    cases hb
def OpenPost (w : World) (A : Option Addr) (n c : Nat) (os : List OV) (e : Ending) (w' : World) : Prop :=
  Q w w' ∧ ((listedO os ≠ 0 ∧ e = .returned (.tuple #[.agg #[.slice none 0 0, .slice none 0 0, .map none], .int .i64 (listedO os : Nat)])) ∨
    (listedO os = 0 ∧ ∃ As cs mb, e = .returned (.tuple #[.agg #[.slice A n c, .slice As (n + 1) cs, .map (some mb)], .int .i64 0]) ∧ w'.ownsRow w.heap.size 3 1 (.slice As (n + 1) cs) (n + 1) ((startsL os (n + 1)).map (Value.int .i64)) ∧ MpR w' mb (tabF 0 0 os)))
theorem OpenPost.err {w w' : World} {A : Option Addr} {n c : Nat} {os : List OV} (hq : Q w w') {er : Nat} (h : listedO os = er) (h0 : er ≠ 0) : OpenPost w A n c os (.returned (.tuple #[.agg #[.slice none 0 0, .slice none 0 0, .map none], .int .i64 (er : Nat)])) w' := ⟨hq, .inl ⟨by omega, by rw [h]⟩⟩
theorem OpenPost.ok {w w' : World} {A : Option Addr} {n c : Nat} {os : List OV} {As : Option Addr} {cs mb : Nat} (hq : Q w w') (h : listedO os = 0) (ho : w'.ownsRow w.heap.size 3 1 (.slice As (n + 1) cs) (n + 1) ((startsL os (n + 1)).map (Value.int .i64))) (hm : MpR w' mb (tabF 0 0 os)) :
    OpenPost w A n c os (.returned (.tuple #[.agg #[.slice A n c, .slice As (n + 1) cs, .map (some mb)], .int .i64 0])) w' := ⟨hq, .inr ⟨h, As, cs, mb, rfl, ho, hm⟩⟩
set_option maxRecDepth 100000 in
set_option maxHeartbeats 8000000 in
theorem open_any (A : Option Addr) (n c : Nat) (os : List OV) (w : World) (hO : ObsR w A n c os) :
    Calls Try.prog 45 #[.slice A n c] w (OpenPost w A n c os) := by
  have hl := hO.sl.len
  obtain ⟨w1, hw1⟩ : ∃ w1, w.alloc (.cells #[.slice none 0 0, .slice none 0 0, .map none] 77) = w1 := ⟨_, rfl⟩
  have hq1 : Q w w1 := by rw [← hw1]; exact (Q.refl w).alloc _
  have hs1 : w.heap.size < w1.heap.size := by rw [← hw1]; simp
  have hb1 : w1.heap[w.heap.size]? = some (.cells #[.slice none 0 0, .slice none 0 0, .map none] 77 (0, 0)) := by rw [← hw1]; exact heap_alloc_new w _
  have HB1 := hide hb1
  have HW1 := hide hw1
  by_cases hb : 8 < n
  · have d0 : decide ((8 : Int) < (n : Int)) = true := by simp; omega
    have E := hide (listed_big (os := os) (by omega))
    clear hO hl hw1 hb1
    go_enter Try.func45, Try.ntmps45
    go_wp2_with fail
    refine bodyPost_ret (v := .tuple #[.agg #[.slice none 0 0, .slice none 0 0, .map none], .int .i64 3]) (by simp [results, Try.results45, go_sem]) rfl ?_
    exact OpenPost.err (er := 3) ((Q.refl w).alloc _) E.out (by decide)
  have d0 : decide ((8 : Int) < (n : Int)) = false := by simp; omega
  have hnb : ¬ 8 < os.length := by omega
  have HNB := hide hnb
  have HO := hide hO
  have HL := hide hl
  have hni : (n : Int) ≤ 8 := by omega
  clear hO hl hw1 hb1 hnb
  go_enter Try.func45, Try.ntmps45
  go_wp2_with fail
  rw [HW1.out]
  clear d0
  go_loopw [13] (fun vi wr => ∃ k : Nat, k ≤ n ∧ vi = .int .i64 k ∧ (∀ j o, j < k → os[j]? = some o → o.valid = 0) ∧ Q w1 wr) (fun vi _ => n - (intOf vi).toNat)
  case atStart => exact ⟨0, by omega, by go_num, fun j o hj => by omega, Q.refl _⟩
  case round =>
    obtain ⟨k, hk, rfl, hall, hq⟩ := hrel
    have HALL := hide hall
    have hsz := hq.size
    have hR0 : w.heap.size < wr.heap.size := by omega
    have hq0 := hq1.trans hq
    clear hall
    by_cases hlt : k < n
    · have hd1 : decide ((k : Int) < (n : Int)) = true := by simp; omega
      have hd0 : decide (k < n) = true := by simp; omega
      have hlti : (k : Int) < (n : Int) := by omega
      obtain ⟨b1, o1, ob, rfl, hbb, g1, x1, x2, x3, hob⟩ := (HO.out.up hq0).at_ k hlt
      obtain ⟨⟨A0, n0, c0, bs⟩, ⟨A1, n1, c1, ss⟩, ⟨A2, n2, c2, ws⟩⟩ := ob
      dsimp only at x1 x2 x3
      have hqa : Q wr (wr.alloc (.cells #[.slice A0 n0 c0, .slice A1 n1 c1, .slice A2 n2 c2] 41)) := (Q.refl wr).alloc _
      have hob2 := hob.up hqa
      have HV := hide (Validate_any A0 n0 c0 A1 n1 c1 ss A2 n2 c2 ws _ hob2.s hob2.t hob2.sok hob2.tok)
      have hvr : OV.valid (⟨A0, n0, c0, bs⟩, ⟨A1, n1, c1, ss⟩, ⟨A2, n2, c2, ws⟩) = validF n0 ss ws := rfl
      have hvle := valid_le (⟨A0, n0, c0, bs⟩, ⟨A1, n1, c1, ss⟩, ⟨A2, n2, c2, ws⟩)
      rw [hvr] at hvle
      obtain ⟨ve, hve⟩ : ∃ ve, validF n0 ss ws = ve := ⟨_, rfl⟩
      rw [hve] at HV hvr hvle
      have G1 := hide g1
      have HVR := hide hvr
      clear hob hob2 g1 hve hvr
      go_wp2_with fail
      refine HV.out.mono ?_
      rintro e w3 ⟨rfl, hq3⟩
      have hq13 := (hq.trans hqa).trans hq3
      have hq03 := hq1.trans hq13
      by_cases hz : ve = 0
      · subst hz
        clear x1 x2 x3 hq3 hqa
        go_wp2_with fail
        go_roundw
        case rel => exact ⟨k + 1, by omega, by go_num, fun j o hj ho => by
          by_cases e : j = k
          · subst e
            rw [G1.out] at ho
            cases ho
            exact HVR.out
          · exact HALL.out j o (by omega) ho, hq13⟩
        case measure => simp [intOf] <;> omega
      · have dz : ((ve : Int) != 0) = true := by simp; omega
        have hR3 : w.heap.size < w3.heap.size := by have := hq13.size; omega
        have hb3 := (hq13.below.block _ hs1).trans HB1.out
        have r0 := cell_blk hb3 0
        have r1 := cell_blk hb3 1
        have r2 := cell_blk hb3 2
        have f0 := free_blk hb3 0
        have f1 := free_blk hb3 1
        have f2 := free_blk hb3 2
        simp at r0 r1 r2
        obtain ⟨s0, s1, s2⟩ := set3 w3 w.heap.size _ _ _ (.slice none 0 0) (.slice none 0 0) (.map none) r0 r1 r2
        have S0 := hide s0
        have S1 := hide s1
        have S2 := hide s2
        have hfe := firstErr_at os k _ G1.out (by rw [HVR.out]; exact hz) HALL.out
        rw [HVR.out] at hfe
        have E := hide (listed_err HNB.out hfe hz)
        have HZ := hide hz
        clear s0 s1 s2 hfe hz hb3 x1 x2 x3 hq3 hqa
        go_wp2_with fail
        have s0 := S0.out
        have s1 := S1.out
        have s2 := S2.out
        refine bodyPost_ret (v := .tuple #[.agg #[.slice none 0 0, .slice none 0 0, .map none], .int .i64 (ve : Nat)]) (by simp [results, Try.results45, go_sem, s0, s1, s2]) rfl ?_
        refine OpenPost.err ?_ E.out HZ.out
        exact ((Q.set hq03 (Nat.le_refl _) _).set (Nat.le_refl _) _).set (Nat.le_refl _) _
    · have hd1 : decide ((k : Int) < (n : Int)) = false := by simp; omega
      have hd0 : decide (k < n) = false := by simp; omega
      obtain rfl : k = n := by omega
      have hval : ∀ o ∈ os, o.valid = 0 := fun o ho => by
        obtain ⟨j, hj, rfl⟩ := List.getElem_of_mem ho
        exact HALL.out j _ (by have := HL.out; omega) (List.getElem?_eq_getElem hj)
      have hfe := firstErr_none os hval
      have HFE := hide hfe
      have HLY := hide (lay_any A k c os wr (HO.out.up hq0) (by omega) hval)
      clear hval hfe
      go_wp2_with fail
      refine HLY.out.mono ?_
      rintro e w5 ⟨hq5, hcase⟩
      have hq15 := hq.trans hq5
      have hq05 := hq1.trans hq15
      have hR5 : w.heap.size < w5.heap.size := by have := hq15.size; omega
      have hb5 := (hq15.below.block _ hs1).trans HB1.out
      have r0 := cell_blk hb5 0
      have r1 := cell_blk hb5 1
      have r2 := cell_blk hb5 2
      have f0 := free_blk hb5 0
      have f1 := free_blk hb5 1
      have f2 := free_blk hb5 2
      simp at r0 r1 r2
      have HB5 := hide hb5
      rcases hcase with ⟨hdup, rfl⟩ | ⟨hdup, vs, mb, rfl, hown, hmp⟩
      · obtain ⟨s0, s1, s2⟩ := set3 w5 w.heap.size _ _ _ (.slice none 0 0) (.slice none 0 0) (.map none) r0 r1 r2
        have S0 := hide s0
        have S1 := hide s1
        have S2 := hide s2
        have E := hide (listed_dup HNB.out HFE.out hdup)
        clear s0 s1 s2 hdup hb5
        go_wp2_with fail
        have s0 := S0.out
        have s1 := S1.out
        have s2 := S2.out
        refine bodyPost_ret (v := .tuple #[.agg #[.slice none 0 0, .slice none 0 0, .map none], .int .i64 5]) (by simp [results, Try.results45, go_sem, s0, s1, s2]) rfl ?_
        refine OpenPost.err (er := 5) ?_ E.out (by decide)
        exact ((Q.set hq05 (Nat.le_refl _) _).set (Nat.le_refl _) _).set (Nat.le_refl _) _
      · obtain ⟨As, cs, hvs, _⟩ := own_form hown
        subst hvs
        obtain ⟨s0, s1, s2⟩ := set3 w5 w.heap.size _ _ _ (.slice A k c) (.slice As (k + 1) cs) (.map (some mb)) r0 r1 r2
        have S0 := hide s0
        have S1 := hide s1
        have S2 := hide s2
        have E := hide (listed_ok HNB.out HFE.out hdup)
        have HOW := hide hown
        have HMP := hide hmp
        clear s0 s1 s2 hdup hb5 hown hmp
        go_wp2_with fail
        have s0 := S0.out
        have s1 := S1.out
        have s2 := S2.out
        refine bodyPost_ret (v := .tuple #[.agg #[.slice A k c, .slice As (k + 1) cs, .map (some mb)], .int .i64 0]) (by simp [results, Try.results45, go_sem, s0, s1, s2]) rfl ?_
        have hrow := (set3_row HB5.out (.slice A k c) (.slice As (k + 1) cs) (.map (some mb))).1 HOW.out hR0
        refine OpenPost.ok ?_ E.out (own_base hrow (by omega)) ((set3_row HB5.out (.slice A k c) (.slice As (k + 1) cs) (.map (some mb))).2 HMP.out)
        exact ((Q.set hq05 (Nat.le_refl _) _).set (Nat.le_refl _) _).set (Nat.le_refl _) _
end Go.Proofs.Ytjdioilkhbpmoaa
