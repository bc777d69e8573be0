/- The walks of the program's Starts, Find and Users. Conditions: the objects read as a list. -/
import Derived.Test.YtjdioilkhbpmoaaLinkI
namespace Go.Proofs.Ytjdioilkhbpmoaa
open Go.RowKit LK
set_option linter.unusedVariables false
def IPost (w : World) (er : Nat) (xs : List Int) (e : Ending) (w' : World) : Prop := ∃ v, e = .returned (.tuple #[v, .int .i64 (er : Nat)]) ∧ w'.ownsRow w.heap.size 3 1 v xs.length (xs.map (Value.int .i64)) ∧ Q w w'
def startsR (os : List OV) : List Int := if listedO os = 0 then startsL os (os.length + 1) else []
def findR (os : List OV) (s : ByteArray) : Int × Bool := if listedO os = 0 then (match lookS (tabF 0 0 os) s with | some (_, b) => (b, true) | none => (0, false)) else (0, false)
def wantB (o : OV) (s : ByteArray) : Bool := o.2.2.xs.any fun x => x.2.2.toList == s.toList
def usersTo (os : List OV) (s : ByteArray) (k : Nat) : List Int := ((List.range k).filter fun j => match os[j]? with | some o => wantB o s | none => false).map Int.ofNat
def usersR (os : List OV) (s : ByteArray) : List Int := if listedO os = 0 then usersTo os s os.length else []
theorem usersTo_succ {os : List OV} {s : ByteArray} {k : Nat} {o : OV} (h : os[k]? = some o) : usersTo os s (k + 1) = if wantB o s = true then usersTo os s k ++ [(k : Int)] else usersTo os s k := by
  unfold usersTo
  rw [List.range_succ, List.filter_append, List.map_append]
  simp only [List.filter_cons, List.filter_nil, h]
  cases wantB o s <;> simp
theorem usersTo_len (os : List OV) (s : ByteArray) (k : Nat) : (usersTo os s k).length ≤ k := by
  unfold usersTo
  rw [List.length_map]
  exact Nat.le_trans (List.length_filter_le _ _) (by simp)
theorem listedO_le (os : List OV) : listedO os ≤ 5 := by
  have h : ∀ l : List OV, firstErrO l ≤ 5 := by
    intro l
    induction l with
    | nil => exact Nat.zero_le _
    | cons o r ih => unfold firstErrO; split
                     · exact ih
                     · exact valid_le o
  have := h os
  unfold listedO
  split
  · omega
  · split
    · exact this
    · split <;> omega
theorem Starts_any (A : Option Addr) (n c : Nat) (os : List OV) (w : World) (hO : ObsR w A n c os) : Calls Try.prog 12 #[.slice A n c] w (IPost w (listedO os) (startsR os)) := by
  have hl := hO.sl.len
  have HP := hide (open_any A n c os w hO)
  have HL := hide hl
  have hst : (startsL os (n + 1)).length = n + 1 := by simp [startsL]
  have HST := hide hst
  clear hO hl hst
  go_enter Try.func12, Try.ntmps12
  go_wp2_with fail
  refine HP.out.mono ?_
  rintro e w1 ⟨hq1, hcase⟩
  rcases hcase with ⟨hne, rfl⟩ | ⟨h0, As, cs, mb, rfl, hown, hmp⟩
  · have dz : ((listedO os : Int) != 0) = true := by simp; omega
    have E := hide (show startsR os = [] by unfold startsR; rw [if_neg hne])
    clear hne
    go_wp2_with fail
    go_ret2
    exact ⟨_, rfl, by rw [E.out]; exact World.ownsRow_nil _ _ _ _, hq1.alloc _⟩
  · have E := hide (show startsR os = startsL os (n + 1) by unfold startsR; rw [if_pos h0, HL.out])
    have E0 := hide h0
    have HOW := hide hown
    clear h0 hown hmp
    go_wp2_with fail
    go_ret2
    exact ⟨_, by rw [E0.out]; rfl, by rw [E.out, HST.out]; exact own_q HOW.out ((Q.refl w1).alloc _), hq1.alloc _⟩
theorem Find_any (A : Option Addr) (n c : Nat) (os : List OV) (s : ByteArray) (w : World) (hO : ObsR w A n c os) (hs : s.size ≤ 9223372036854775807) :
    Calls Try.prog 14 #[.slice A n c, .string s] w fun e w' => e = .returned (.tuple #[.int .i64 (findR os s).1, .bool (findR os s).2, .int .i64 (listedO os : Nat)]) ∧ Q w w' := by
  have HP := hide (open_any A n c os w hO)
  clear hO
  go_enter Try.func14, Try.ntmps14
  go_wp2_with fail
  refine HP.out.mono ?_
  rintro e w1 ⟨hq1, hcase⟩
  rcases hcase with ⟨hne, rfl⟩ | ⟨h0, As, cs, mb, rfl, hown, hmp⟩
  · have dz : ((listedO os : Int) != 0) = true := by simp; omega
    have E := hide (show findR os s = (0, false) by unfold findR; rw [if_neg hne])
    clear hne
    go_wp2_with fail
    go_ret3
    exact ⟨by rw [E.out]; rfl, hq1.alloc _⟩
  · have E0 := hide h0
    have HM := hide (hmp.up ((Q.refl w1).alloc (.cells #[.slice A n c, .slice As (n + 1) cs, .map (some mb)] 77)))
    cases hlk : lookS (tabF 0 0 os) s with
    | none =>
      have E := hide (show findR os s = (0, false) by unfold findR; rw [if_pos h0, hlk])
      have HK := hide hlk
      clear h0 hown hmp hlk
      go_wp2_with (at_lookup; refine wpList_lookN rfl _ _ rfl rfl HM.out s rfl hs HK.out ?_)
      go_ret3
      exact ⟨by rw [E.out, E0.out]; rfl, (hq1.alloc _).alloc _⟩
    | some ab =>
      obtain ⟨pa, pb⟩ := ab
      have E := hide (show findR os s = (pb, true) by unfold findR; rw [if_pos h0, hlk])
      have HK := hide hlk
      clear h0 hown hmp hlk
      go_wp2_with (at_lookup; refine wpList_lookF rfl _ _ rfl rfl HM.out s rfl hs HK.out ?_)
      go_ret3
      exact ⟨by rw [E.out, E0.out]; rfl, (hq1.alloc _).alloc _⟩
theorem wants_any (A0 : Option Addr) (n0 c0 : Nat) (v1 : Value) (A2 : Option Addr) (n2 c2 : Nat) (ws : List Wnt) (s : ByteArray) (w : World) (hT : Sl 3 encWnt w A2 n2 c2 ws) (hn : n2 ≤ 100000) :
    Calls Try.prog 49 #[.agg #[.slice A0 n0 c0, v1, .slice A2 n2 c2], .string s] w fun e w' => e = .returned (.bool (ws.any fun x => x.2.2.toList == s.toList)) ∧ Q w w' := by
  have hqa : Q w ((w.alloc (.cells #[.slice A0 n0 c0, v1, .slice A2 n2 c2] 41)).alloc (.cells #[.string s] 9)) := ((Q.refl w).alloc _).alloc _
  have HN := hide (has_wants (fun x => x.2.2.toList == s.toList) (.pointer (some ⟨w.heap.size + 1, 0, none⟩)) A2 n2 c2 ws _ (hT.up hqa) hn (fun at' kd' nm' hm W hqW => wantC (w.heap.size + 1) (at', kd', nm') s W (by have := hqW.size; simp at this; omega) (by rw [hqW.facts.1 _ _ (by simp)]; simp)))
  obtain ⟨b, hb⟩ : ∃ b, (ws.any fun x => x.2.2.toList == s.toList) = b := ⟨_, rfl⟩
  rw [hb] at HN ⊢
  clear hT hqa hb
  go_enter Try.func49, Try.ntmps49
  go_wp2_with fail
  refine HN.out.mono ?_
  rintro e w1 ⟨rfl, hq1⟩
  go_wp2_with fail
  go_ret
  exact ⟨rfl, (((Q.refl w).alloc _).alloc _).trans hq1⟩
set_option maxHeartbeats 2000000 in
theorem Users_any (A : Option Addr) (n c : Nat) (os : List OV) (s : ByteArray) (w : World) (hO : ObsR w A n c os) : Calls Try.prog 16 #[.slice A n c, .string s] w (IPost w (listedO os) (usersR os s)) := by
  have hl := hO.sl.len
  have HP := hide (open_any A n c os w hO)
  have HO := hide hO
  have HL := hide hl
  clear hO hl
  go_enter Try.func16, Try.ntmps16
  go_wp2_with fail
  refine HP.out.mono ?_
  rintro e w1 ⟨hq1, hcase⟩
  rcases hcase with ⟨hne, rfl⟩ | ⟨h0, As, cs, mb, rfl, hown, hmp⟩
  · have dz : ((listedO os : Int) != 0) = true := by simp; omega
    have E := hide (show usersR os s = [] by unfold usersR; rw [if_neg hne])
    clear hne
    go_wp2_with fail
    go_ret2
    exact ⟨_, rfl, by rw [E.out]; exact World.ownsRow_nil _ _ _ _, hq1.alloc _⟩
  · have hn8 : n ≤ 8 := by
      have h := h0
      unfold listedO at h
      split at h
      · cases h
      · have := HL.out; omega
    have hni : (n : Int) ≤ 8 := by omega
    have E := hide (show usersR os s = usersTo os s n by unfold usersR; rw [if_pos h0, HL.out])
    have E0 := hide h0
    have hqa := hq1.alloc (.cells #[.slice A n c, .slice As (n + 1) cs, .map (some mb)] 77)
    clear h0 hown hmp
    go_wp2_with fail
    go_loopw [8, 21] (fun v vi wr => ∃ k : Nat, k ≤ n ∧ vi = .int .i64 k ∧ wr.ownsRow w.heap.size 3 1 v (usersTo os s k).length ((usersTo os s k).map (Value.int .i64)) ∧ Q w wr) (fun _ vi _ => n - (intOf vi).toNat)
    case atStart => exact ⟨0, by omega, by go_num, World.ownsRow_nil _ _ _ _, hqa⟩
    case round =>
      obtain ⟨k, hk, rfl, hown, hq⟩ := hrel
      have hsz := hq.size
      have hul := usersTo_len os s k
      by_cases hlt : k < n
      · have hd1 : decide ((k : Int) < (n : Int)) = true := by simp; omega
        have hd0 : decide (k < n) = true := by simp; omega
        have hlti : (k : Int) < (n : Int) := by omega
        obtain ⟨b1, o1, ob, rfl, hbb, g1, x1, x2, x3, hob⟩ := (HO.out.up hq).at_ k hlt
        obtain ⟨⟨A0, n0, c0, bs⟩, ⟨A1, n1, c1, ss⟩, ⟨A2, n2, c2, ws⟩⟩ := ob
        dsimp only at x1 x2 x3
        have hv2 : n2 ≤ 16 := by
          have h := E0.out
          unfold listedO at h
          split at h
          · cases h
          · split at h
            · rename_i h1; exact absurd h h1
            · rename_i h1
              have h1 : firstErrO os = 0 := by omega
              have hv : OV.valid (⟨A0, n0, c0, bs⟩, ⟨A1, n1, c1, ss⟩, ⟨A2, n2, c2, ws⟩) = 0 := by
                have : ∀ l : List OV, firstErrO l = 0 → ∀ o ∈ l, o.valid = 0 := by
                  intro l
                  induction l with
                  | nil => intro _ o ho; cases ho
                  | cons p r ih =>
                    intro hf o ho
                    unfold firstErrO at hf
                    split at hf
                    · rename_i hp
                      rcases List.mem_cons.1 ho with rfl | ho
                      · exact hp
                      · exact ih hf o ho
                    · rename_i hp; exact absurd hf hp
                exact this os h1 _ (List.mem_of_getElem? g1)
              unfold OV.valid at hv
              by_cases hb : 512 < n0 ∨ 16 < ss.length ∨ 16 < ws.length
              · have := valid_big (n := n0) (ss := ss) (ws := ws) hb
                dsimp only at hv
                rw [this] at hv; cases hv
              · have := hob.t.len; dsimp only at this; omega
        have hqo : Q wr (wr.alloc (.cells #[.slice A0 n0 c0, .slice A1 n1 c1, .slice A2 n2 c2] 41)) := (Q.refl wr).alloc _
        have HW := hide (wants_any A0 n0 c0 (.slice A1 n1 c1) A2 n2 c2 ws s _ (hob.t.up hqo) (by omega))
        have hus := usersTo_succ (s := s) g1
        have HUS := hide hus
        obtain ⟨wb, hwb⟩ : ∃ wb, (ws.any fun x => x.2.2.toList == s.toList) = wb := ⟨_, rfl⟩
        have hwb2 : wantB (⟨A0, n0, c0, bs⟩, ⟨A1, n1, c1, ss⟩, ⟨A2, n2, c2, ws⟩) s = wb := hwb
        rw [hwb] at HW
        have HWB := hide hwb2
        clear hob hus hwb hwb2 g1
        go_wp2_with fail
        refine HW.out.mono ?_
        rintro e w3 ⟨rfl, hq3⟩
        have hown3 := own_q (own_q hown hqo) hq3
        have hq03 := (hq.trans hqo).trans hq3
        have hs3 := hq03.size
        clear hown hq3 hqo x1 x2 x3
        cases wb
        · go_wp2_with fail
          go_roundw
          case rel => exact ⟨k + 1, by omega, by go_num, by rw [HUS.out, HWB.out]; exact hown3, hq03⟩
          case measure => simp [intOf] <;> omega
        · go_wp2_with (at_builtin; refine wpList_app1 rfl El_int _ _ rfl rfl hown3 (by simp) rfl rfl ?_ ?_ ?_ ?_; (focus (simp [Value.oneCell'])); (focus omega); (focus omega); intro v7 w7 hown7 hb7)
          go_roundw
          case rel => exact ⟨k + 1, by omega, by go_num, by rw [HUS.out, HWB.out, if_pos rfl, List.length_append, List.map_append]; exact hown7, hq03.below.trans hb7⟩
          case measure => simp [intOf] <;> omega
      · have hd1 : decide ((k : Int) < (n : Int)) = false := by simp; omega
        have hd0 : decide (k < n) = false := by simp; omega
        obtain rfl : k = n := by omega
        have HOW := hide hown
        clear hown
        go_wp2_with fail
        go_ret2
        exact ⟨_, by rw [E0.out]; rfl, by rw [E.out]; exact HOW.out, hq⟩
end Go.Proofs.Ytjdioilkhbpmoaa
