/- Rows of 1 numbers: insert, remove, close. Rows of 2 numbers: insert, remove, close. Rows of 3 numbers: insert, remove, close. Conditions: as each theorem says. -/
import Derived.Test.YtdaklffbfadghaaGreatLsU7
namespace Go.Proofs.YtdaklffbfadghaaGreat
open Go.RowKit HP
set_option linter.unusedVariables false
set_option linter.unusedSimpArgs false
section
variable {w W : World} {h : Hp} {r r1 : Rw} {m : HM} {bs : List Loc}
theorem row1 {row : List Int} (hl : row.length = 1) : ∃ x0, row = [x0] := by
  match row, hl with
  | [x0], _ => exact ⟨x0, rfl⟩
theorem lb_read1 (X : LB w h r W m r1 bs) (I : Inv m) (i : Nat) (hi : i < 64) {row : List Int} (hr : RowIs m 1 r1.ps i row) (hb : ∀ v ∈ row, -9223372036854775808 ≤ v ∧ v ≤ 9223372036854775807) :
    Calls Tryz.prog 91 #[r.ptr, .int .i64 i] W fun e W' => e = .returned (.agg (intsV row).toArray) ∧ LB w h r W' m r1 bs := by
  obtain ⟨x0, rfl⟩ := row1 (row := row) (by obtain ⟨p, -, hl, -⟩ := hr; exact hl)
  have hrb := X.ls.rb
  refine (X.call (P := fun e W' m2 r2 => e = .returned (.agg (intsV [x0]).toArray) ∧ m2 = m ∧ r2 = r1) fun h1 L e1 e2 e3 => ?_).mono ?_
  · have := read1_any L (by rw [e1]; exact I) i hi (by rw [e1]; exact hr) hb
    unfold Rw.ptr at this ⊢
    rw [hrb, e1] at this
    refine this.mono ?_
    rintro e W' ⟨he, hX⟩
    exact ⟨m, r1, hX, he, rfl, rfl⟩
  · rintro e W' ⟨m2, r2, hX, he, rfl, rfl⟩
    exact ⟨he, hX⟩
theorem lb_write1 (X : LB w h r W m r1 bs) (I : Inv m) (i : Nat) (hi : i < 64) {p : Int} (hp : r1.ps[i / 4]? = some p) (hh : Has m p 32) (row : List Int) (hl : row.length = 1) :
    Calls Tryz.prog 92 #[r.ptr, .int .i64 i, .agg (intsV row).toArray] W fun e W' => e = .returned (.tuple #[]) ∧ ∃ m', LB w h r W' m' r1 bs ∧ Writing m m' p (((i % 4 * (8 * 1) : Nat)) : Int) row (8 * row.length) := by
  obtain ⟨x0, rfl⟩ := row1 hl
  have hrb := X.ls.rb
  refine (X.call (P := fun e W' m2 r2 => e = .returned (.tuple #[]) ∧ r2 = r1 ∧ Writing m m2 p (((i % 4 * (8 * 1) : Nat)) : Int) [x0] (8 * 1)) fun h1 L e1 e2 e3 => ?_).mono ?_
  · have := write1_any L (by rw [e1]; exact I) i hi hp (by rw [e1]; exact hh) x0
    unfold Rw.ptr at this ⊢
    rw [hrb, e1] at this
    refine this.mono ?_
    rintro e W' ⟨m', he, hX, hW⟩
    exact ⟨m', r1, hX, he, rfl, hW⟩
  · rintro e W' ⟨m2, r2, hX, he, rfl, hW⟩
    exact ⟨he, m2, hX, hW⟩
theorem lb_grow1 (X : LB w h r W m r1 bs) (I : Inv m) (hn : r1.n ≤ 64) (P : Pcs m 1 r1.ps r1.n) (hc : m.calls < 1000000000) :
    Calls Tryz.prog 109 #[r.ptr] W fun e W' => ∃ (ok : Bool) (m' : HM) (r2 : Rw), e = .returned (.int .i64 (if ok then 0 else 3)) ∧ LB w h r W' m' r2 bs ∧ Grew m m' 1 r1.ps r2.ps r1.n ok ∧ r2.n = r1.n + (if ok then 1 else 0) ∧ r2.closed = r1.closed ∧ r2.more = r1.more := by
  have hrb := X.ls.rb
  refine (X.call (P := fun e W' m' r2 => ∃ ok : Bool, e = .returned (.int .i64 (if ok then 0 else 3)) ∧ Grew m m' 1 r1.ps r2.ps r1.n ok ∧ r2.n = r1.n + (if ok then 1 else 0) ∧ r2.closed = r1.closed ∧ r2.more = r1.more) fun h1 L e1 e2 e3 => ?_).mono ?_
  · have := grow1_any L (by rw [e1]; exact I) hn (by rw [e1]; exact P) (by rw [e3]; exact hc)
    unfold Rw.ptr at this ⊢
    rw [hrb, e1] at this
    refine this.mono ?_
    rintro e W' ⟨ok, m', r2, he, hX, hG⟩
    exact ⟨m', r2, hX, ok, he, hG⟩
  · rintro e W' ⟨m2, r2, hX, ok, he, hG⟩
    exact ⟨ok, m2, r2, he, hX, hG⟩
theorem lb_drop1 (X : LB w h r W m r1 bs) (I : Inv m) (k : Nat) (hk : r1.n = k + 1) (hk64 : k < 64) (P : Pcs m 1 r1.ps (k + 1)) :
    Calls Tryz.prog 102 #[r.ptr] W fun e W' => e = .returned (.tuple #[]) ∧ ∃ (m' : HM) (r2 : Rw), LB w h r W' m' r2 bs ∧ Dropd m m' 1 r1.ps r2.ps k ∧ r2.n = k ∧ r2.closed = r1.closed ∧ r2.more = r1.more := by
  have hrb := X.ls.rb
  refine (X.call (P := fun e W' m' r2 => e = .returned (.tuple #[]) ∧ Dropd m m' 1 r1.ps r2.ps k ∧ r2.n = k ∧ r2.closed = r1.closed ∧ r2.more = r1.more) fun h1 L e1 e2 e3 => ?_).mono ?_
  · have := drop1_any L (by rw [e1]; exact I) k hk hk64 (by rw [e1]; exact P)
    unfold Rw.ptr at this ⊢
    rw [hrb, e1] at this
    refine this.mono ?_
    rintro e W' ⟨m', r2, he, hX, hG⟩
    exact ⟨m', r2, hX, he, hG⟩
  · rintro e W' ⟨m2, r2, hX, he, hG⟩
    exact ⟨he, m2, r2, hX, hG⟩
end
set_option maxHeartbeats 4000000 in
set_option maxRecDepth 100000 in
theorem insert1_any {h : Hp} {r : Rw} {w : World} {Ls : List (List Int)} (L : LR w h r) (I : Inv h.m) (K : Kp h.m 1 r.ps Ls) (hl : Ls.length = r.n) (hc : h.calls < 1000000000) (hb : BdL Ls) (i : Nat) (hi : i ≤ r.n) (x0 : Int) :
    Calls Tryz.prog 90 #[r.ptr, .int .i64 i, .agg #[.int .i64 x0]] w fun e w' => ∃ (ok : Bool) (m' : HM) (r2 : Rw), e = .returned (.int .i64 (if ok then 0 else 3)) ∧ LS w h r w' m' r2 ∧ Insd h.m m' 1 r.ps r2.ps Ls i [x0] ok ∧ r2.n = r.n + (if ok then 1 else 0) ∧ r2.closed = r.closed ∧ r2.more = r.more := by
  have h64 := K.len
  obtain ⟨t, ht⟩ : ∃ t, t = [x0] := ⟨_, rfl⟩
  have htl : t.length = 1 := by rw [ht]; rfl
  have HIT : Hid ((intsV t).toArray = #[.int .i64 x0]) := by rw [ht]; rfl
  rw [← ht]
  have HX0 : Hid (LB w h r w h.m r []) := LB.start L
  have HGR : Hid (∀ W bs, LB w h r W h.m r bs → Calls Tryz.prog 109 #[r.ptr] W fun e W' => ∃ (ok : Bool) (m' : HM) (r2 : Rw), e = .returned (.int .i64 (if ok then 0 else 3)) ∧ LB w h r W' m' r2 bs ∧ Grew h.m m' 1 r.ps r2.ps r.n ok ∧ r2.n = r.n + (if ok then 1 else 0) ∧ r2.closed = r.closed ∧ r2.more = r.more) := fun W bs X => lb_grow1 X I (by omega) (by rw [← hl]; exact K.pcs) hc
  have HRD : Hid (∀ W bs m' r2 (j : Nat) row (a : Int), LB w h r W m' r2 bs → Inv m' → j < 64 → a = (j : Int) → RowIs m' 1 r2.ps j row → row ∈ Ls → Calls Tryz.prog 91 #[r.ptr, .int .i64 a] W fun e W' => e = .returned (.agg (intsV row).toArray) ∧ LB w h r W' m' r2 bs) := fun W bs m' r2 j row a X I' hj ea hr hm => by
    subst ea
    exact lb_read1 X I' j hj hr (hb row hm)
  have HWR : Hid (∀ W bs m' r2 (j : Nat) p row, LB w h r W m' r2 bs → Inv m' → j < 64 → r2.ps[j / 4]? = some p → Has m' p 32 → row.length = 1 → Calls Tryz.prog 92 #[r.ptr, .int .i64 j, .agg (intsV row).toArray] W fun e W' => e = .returned (.tuple #[]) ∧ ∃ m2, LB w h r W' m2 r2 bs ∧ Writing m' m2 p (((j % 4 * (8 * 1) : Nat)) : Int) row (8 * row.length)) := fun W bs m' r2 j p row X I' hj hp hh hrl => lb_write1 X I' j hj hp hh row hrl
  have HK2 : Hid (∀ W bs m' r2, LB w h r W m' r2 bs → W.cell? ⟨r.blk, 2, none⟩ = some (.int .i64 r2.n) ∧ r.blk < W.heap.size) := fun W bs m' r2 X => ⟨X.ls.k2, X.ls.lt⟩
  have HKP := hide K
  have HLL := hide hl
  have hrp : r.ptr = .pointer (some ⟨r.blk, 0, none⟩) := rfl
  rw [hrp] at HGR HRD HWR ⊢
  have hlt := L.rlt r.blk (.inl rfl)
  obtain ⟨b, eb⟩ : ∃ b, b = r.blk := ⟨_, rfl⟩
  rw [← eb] at HGR HRD HWR HK2 hlt ⊢
  obtain ⟨n, en⟩ : ∃ n, n = r.n := ⟨_, rfl⟩
  have HEN := hide en
  rw [← en] at hi hl
  rw [hl] at h64
  clear K hrp eb L I en hl ht
  go_enter Tryz.func90, Tryz.ntmps90
  go_wp2_with fail
  refine (HGR.out _ _ (HX0.out.alloc #[.int .i64 x0] 126)).mono ?_
  rintro e w2 ⟨ok, m1, r2, rfl, hX2, hG, h2n, h2c, h2m⟩
  have HX2 := hide hX2
  have HG := hide hG
  have H2N := hide h2n
  have H2C := hide h2c
  have H2M := hide h2m
  clear hX2 hG h2n h2c h2m
  cases ok
  · have HIN : Hid (Insd h.m m1 1 r.ps r2.ps Ls i t false) := insd_no HKP.out (by rw [HLL.out]; exact HG.out)
    go_wp2_with fail
    go_ret
    exact ⟨false, m1, r2, rfl, HX2.out.ls, HIN.out, H2N.out, H2C.out, H2M.out⟩
  · obtain ⟨k2, hbl⟩ := HK2.out _ _ _ _ HX2.out
    rw [H2N.out, ← HEN.out, if_pos rfl] at k2
    push_cast at k2
    have hni : (n : Int) ≤ 64 := by omega
    have HUP : Hid (ShUp m1 1 r2.ps Ls n) := by
      have G : Grew h.m m1 1 r.ps r2.ps Ls.length true := by rw [HLL.out]; exact HG.out
      have := G.up HKP.out
      rw [HLL.out, ← HEN.out] at this
      exact this
    have hn64 : n < 64 := by
      rw [HEN.out]
      exact (HG.out.yes rfl).1
    go_wp2_with fail
    go_loopw [8] (fun vk wr => ∃ (k : Nat) (m' : HM), i ≤ k ∧ k ≤ n ∧ vk = .int .i64 (k : Int) ∧ LB w h r wr m' r2 [(w.heap.size, #[.int .i64 x0], 126)] ∧ ShUp m' 1 r2.ps Ls k ∧ Fr m1 m' r2.ps r2.ps ∧ m'.calls = m1.calls ∧ m'.failIn = m1.failIn) (fun vk _ => (intOf vk).toNat)
    case atStart => exact ⟨n, m1, hi, Nat.le_refl _, by go_num, HX2.out, HUP.out, .refl _ _, rfl, rfl⟩
    case round =>
      obtain ⟨k, m', hik, hkn, rfl, hX, hS, hF, hcl, hfl⟩ := hrel
      have HX := hide hX
      have HS := hide hS
      have HF := hide hF
      have HCL := hide hcl
      have HFL := hide hfl
      clear hX hS hF hcl hfl
      obtain ⟨p, hp, -, hh⟩ := HS.out.pcs.at (i := k) (by rw [HLL.out, ← HEN.out]; omega)
      have HP := hide hp
      have HH := hide hh
      clear hp hh
      by_cases hlt2 : i < k
      · have hd1 : decide ((i : Int) < (k : Int)) = true := by simp; omega
        have hlt3 : (i : Int) < (k : Int) := by omega
        obtain ⟨k', ek⟩ : ∃ k', k = k' + 1 := ⟨k - 1, by omega⟩
        have hk' : k' < Ls.length := by rw [HLL.out, ← HEN.out]; omega
        obtain ⟨row, hrow⟩ : ∃ row, Ls[k']? = some row := ⟨Ls[k'], List.getElem?_eq_getElem hk'⟩
        have HROW := hide hrow
        have HRI := hide (HS.out.low k' row (by omega) hrow)
        have HRM := hide (List.mem_of_getElem? hrow)
        have hrl : row.length = 1 := HKP.out.wide HRM.out
        have hki : (k : Int) ≤ 64 := by omega
        have HEK := hide ek
        have hk63 : k' < 64 := by omega
        clear hrow hk' ek
        go_wp2_with (first
          | (go_at_call 91; refine (HRD.out _ _ _ _ k' row _ HX.out HS.out.inv hk63 (by have := HEK.out; omega) HRI.out HRM.out).mono ?_; rintro e w3 ⟨rfl, hX3⟩; have HX3 := hide hX3; clear hX3)
          | (go_at_call 92; refine (HWR.out _ _ _ _ k p row HX3.out HS.out.inv (by omega) HP.out HH.out hrl).mono ?_; rintro e w4 ⟨rfl, m4, hX4, hW4⟩; have HX4 := hide hX4; have HW4 := hide hW4; clear hX4 hW4))
        go_roundw
        case rel =>
          have S := HS.out
          have HP2 := HP.out
          have W4 := HW4.out
          have ek := HEK.out
          rw [ek] at S HP2 W4
          obtain ⟨s1, s2⟩ := S.step HROW.out HP2 hrl W4
          exact ⟨k', m4, by omega, by omega, by subst ek; go_num, HX4.out, s1, HF.out.trans s2, W4.calls.trans HCL.out, W4.failIn.trans HFL.out⟩
        case measure => simp [intOf] <;> omega
      · have hd1 : decide ((i : Int) < (k : Int)) = false := by simp; omega
        have hki : k = i := by omega
        have HWT : Hid (Calls Tryz.prog 92 #[.pointer (some ⟨b, 0, none⟩), .int .i64 i, .agg #[.int .i64 x0]] wr fun e W' => e = .returned (.tuple #[]) ∧ ∃ m2, LB w h r W' m2 r2 [(w.heap.size, #[.int .i64 x0], 126)] ∧ Writing m' m2 p (((i % 4 * (8 * 1) : Nat)) : Int) t (8 * t.length)) := by
          have := HWR.out wr _ m' r2 i p t HX.out HS.out.inv (by omega) (by rw [← hki]; exact HP.out) HH.out htl
          rw [HIT.out] at this
          exact this
        have cA0 : wr.cell? ⟨w.heap.size, 0, none⟩ = some (.int .i64 x0) := by rw [HX.out.cell (List.Mem.head _) 0]; rfl
        have HIN : Hid (∀ m2, Writing m' m2 p (((i % 4 * (8 * 1) : Nat)) : Int) t (8 * t.length) → Insd h.m m2 1 r.ps r2.ps Ls i t true) := fun m2 W2 => by
          have G : Grew h.m m1 1 r.ps r2.ps Ls.length true := by rw [HLL.out]; exact HG.out
          have S := HS.out
          rw [hki] at S
          exact insd_yes G S HF.out HCL.out HFL.out (by rw [HLL.out, ← HEN.out]; exact hi) (by rw [← hki]; exact HP.out) htl W2
        clear hki
        go_wp2_with (go_at_call 92; refine HWT.out.mono ?_; rintro e w4 ⟨rfl, m4, hX4, hW4⟩; have HX4 := hide hX4; have HW4 := hide hW4; clear hX4 hW4)
        go_ret
        exact ⟨true, m4, r2, rfl, HX4.out.ls, HIN.out _ HW4.out, H2N.out, H2C.out, H2M.out⟩
set_option maxHeartbeats 4000000 in
set_option maxRecDepth 100000 in
theorem remove1_any {h : Hp} {r : Rw} {w : World} {Ls : List (List Int)} (L : LR w h r) (I : Inv h.m) (K : Kp h.m 1 r.ps Ls) (hl : Ls.length = r.n) (hb : BdL Ls) (i : Nat) {row : List Int} (hrow : Ls[i]? = some row) :
    Calls Tryz.prog 70 #[r.ptr, .int .i64 i] w fun e w' => ∃ (m' : HM) (r2 : Rw), e = .returned (.agg (intsV row).toArray) ∧ LS w h r w' m' r2 ∧ Remd h.m m' 1 r.ps r2.ps Ls i ∧ r2.n + 1 = r.n ∧ r2.closed = r.closed ∧ r2.more = r.more := by
  have h64 := K.len
  have hil := (List.getElem?_eq_some_iff.1 hrow).1
  obtain ⟨x0, erow⟩ := row1 (K.wide (List.mem_of_getElem? hrow))
  have HX0 : Hid (LB w h r w h.m r []) := LB.start L
  have HR1 : Hid (∀ W bs, LB w h r W h.m r bs → Calls Tryz.prog 91 #[r.ptr, .int .i64 i] W fun e W' => e = .returned (.agg #[.int .i64 x0]) ∧ LB w h r W' h.m r bs) := fun W bs X => by
    have := lb_read1 X I i (by omega) (K.row i row hrow) (hb row (List.mem_of_getElem? hrow))
    rw [erow] at this
    exact this
  have HRD : Hid (∀ W bs m' (j : Nat) row (a : Int), LB w h r W m' r bs → Inv m' → j < 64 → a = (j : Int) → RowIs m' 1 r.ps j row → row ∈ Ls → Calls Tryz.prog 91 #[r.ptr, .int .i64 a] W fun e W' => e = .returned (.agg (intsV row).toArray) ∧ LB w h r W' m' r bs) := fun W bs m' j row a X I' hj ea hr hm => by
    subst ea
    exact lb_read1 X I' j hj hr (hb row hm)
  have HWR : Hid (∀ W bs m' (j : Nat) p row, LB w h r W m' r bs → Inv m' → j < 64 → r.ps[j / 4]? = some p → Has m' p 32 → row.length = 1 → Calls Tryz.prog 92 #[r.ptr, .int .i64 j, .agg (intsV row).toArray] W fun e W' => e = .returned (.tuple #[]) ∧ ∃ m2, LB w h r W' m2 r bs ∧ Writing m' m2 p (((j % 4 * (8 * 1) : Nat)) : Int) row (8 * row.length)) := fun W bs m' j p row X I' hj hp hh hrl => lb_write1 X I' j hj hp hh row hrl
  have HDR : Hid (∀ W bs m' k, LB w h r W m' r bs → Inv m' → r.n = k + 1 → k < 64 → Pcs m' 1 r.ps (k + 1) → Calls Tryz.prog 102 #[r.ptr] W fun e W' => e = .returned (.tuple #[]) ∧ ∃ (m2 : HM) (r2 : Rw), LB w h r W' m2 r2 bs ∧ Dropd m' m2 1 r.ps r2.ps k ∧ r2.n = k ∧ r2.closed = r.closed ∧ r2.more = r.more) := fun W bs m' k X I' hk hk64 P => lb_drop1 X I' k hk hk64 P
  have HK2 : Hid (∀ W bs m', LB w h r W m' r bs → W.cell? ⟨r.blk, 2, none⟩ = some (.int .i64 r.n) ∧ r.blk < W.heap.size) := fun W bs m' X => ⟨X.ls.k2, X.ls.lt⟩
  have HKP := hide K
  have HLL := hide hl
  have HST := hide (ShDn.start I K hil)
  have HROW0 := hide erow
  have hrp : r.ptr = .pointer (some ⟨r.blk, 0, none⟩) := rfl
  rw [hrp] at HR1 HRD HWR HDR ⊢
  have hlt := L.rlt r.blk (.inl rfl)
  obtain ⟨b, eb⟩ : ∃ b, b = r.blk := ⟨_, rfl⟩
  rw [← eb] at HR1 HRD HWR HDR HK2 hlt ⊢
  obtain ⟨n, en⟩ : ∃ n, n = r.n := ⟨_, rfl⟩
  have HEN := hide en
  have hin : i < n := by omega
  have hn64 : n ≤ 64 := by omega
  rw [← en] at HK2
  have HIL := hide hil
  clear K hrp eb L I en hl hrow erow h64 hil
  go_enter Tryz.func70, Tryz.ntmps70
  go_wp2_with (go_at_call 91; refine (HR1.out _ _ (HX0.out.alloc #[.int .i64 0] 126)).mono ?_; rintro e w2 ⟨rfl, hX2⟩; have HX2 := hide hX2; have hws := hX2.lt (List.Mem.head _); clear hX2)
  have HX3 := hide (HX2.out.alloc #[.int .i64 x0] 126)
  have hg5 : w.heap.size < w2.heap.size := hws
  obtain ⟨g5, eg5⟩ : ∃ g5, g5 = w2.heap.size := ⟨_, rfl⟩
  rw [← eg5] at HX3 hg5 ⊢
  clear eg5 hws HX2
  go_loopw [6] (fun vk wr => ∃ (k : Nat) (m' : HM), i ≤ k ∧ k < n ∧ vk = .int .i64 (k : Int) ∧ LB w h r wr m' r [(g5, #[.int .i64 x0], 126), (w.heap.size, #[.int .i64 0], 126)] ∧ ShDn m' 1 r.ps Ls i k ∧ Fr h.m m' r.ps r.ps ∧ m'.calls = h.m.calls ∧ m'.failIn = h.m.failIn) (fun vk _ => n - (intOf vk).toNat)
  case atStart => exact ⟨i, h.m, Nat.le_refl _, hin, by go_num, HX3.out, HST.out, .refl _ _, rfl, rfl⟩
  case round =>
    obtain ⟨k, m', hik, hkn, rfl, hX, hS, hF, hcl, hfl⟩ := hrel
    have HX := hide hX
    have HS := hide hS
    have HF := hide hF
    have HCL := hide hcl
    have HFL := hide hfl
    clear hX hS hF hcl hfl
    obtain ⟨k2, hbl⟩ := HK2.out _ _ _ HX.out
    have hni : (n : Int) ≤ 64 := by omega
    have hkni : (k : Int) < (n : Int) := by omega
    by_cases hlt2 : k + 1 < n
    · have hd1 : decide ((k : Int) < (n : Int) - 1) = true := by simp; omega
      obtain ⟨p, hp, -, hh⟩ := HS.out.pcs.at (i := k) (by rw [HLL.out, ← HEN.out]; omega)
      have HP := hide hp
      have HH := hide hh
      obtain ⟨row1, hrow1⟩ : ∃ row1, Ls[k + 1]? = some row1 := ⟨Ls[k + 1]'(by rw [HLL.out, ← HEN.out]; omega), List.getElem?_eq_getElem _⟩
      have HROW := hide hrow1
      have HRI := hide (HS.out.high (k + 1) row1 (by omega) hrow1)
      have HRM := hide (List.mem_of_getElem? hrow1)
      have hrl : row1.length = 1 := HKP.out.wide HRM.out
      have hk63 : k + 1 < 64 := by omega
      clear hrow1 hp hh
      go_wp2_with (first
        | (go_at_call 91; refine (HRD.out _ _ _ (k + 1) row1 _ HX.out HS.out.inv hk63 (by omega) HRI.out HRM.out).mono ?_; rintro e w3 ⟨rfl, hX3⟩; have HX3 := hide hX3; clear hX3)
        | (go_at_call 92; refine (HWR.out _ _ _ k p row1 HX3.out HS.out.inv (by omega) HP.out HH.out hrl).mono ?_; rintro e w4 ⟨rfl, m4, hX4, hW4⟩; have HX4 := hide hX4; have HW4 := hide hW4; clear hX4 hW4))
      go_roundw
      case rel =>
        obtain ⟨s1, s2⟩ := HS.out.step hik HROW.out HP.out hrl HW4.out
        exact ⟨k + 1, m4, by omega, by omega, by go_num, HX4.out, s1, HF.out.trans s2, HW4.out.calls.trans HCL.out, HW4.out.failIn.trans HFL.out⟩
      case measure => simp [intOf] <;> omega
    · have hd1 : decide ((k : Int) < (n : Int) - 1) = false := by simp; omega
      have HNK : Hid (n = k + 1) := by show n = k + 1; omega
      have hk64 : k < 64 := by omega
      go_wp2_with (go_at_call 102; go_loud (refine (HDR.out _ _ _ k HX.out HS.out.inv (by rw [← HEN.out]; exact HNK.out) hk64 (by have := HS.out.pcs; rw [HLL.out, ← HEN.out, HNK.out] at this; exact this)).mono ?_; rintro e w4 ⟨rfl, m4, r4, hX4, hD4, hn4, hc4, hm4⟩; have HX4 := hide hX4; have HD4 := hide hD4; have HN4 := hide hn4; have HC4 := hide hc4; have HM4 := hide hm4; have hmA : ((g5, #[.int .i64 x0], 126) : Loc) ∈ ([(g5, #[.int .i64 x0], 126), (w.heap.size, #[.int .i64 0], 126)] : List Loc) := List.Mem.head _; have hmB : ((w.heap.size, #[.int .i64 0], 126) : Loc) ∈ ([(g5, #[.int .i64 x0], 126), (w.heap.size, #[.int .i64 0], 126)] : List Loc) := List.Mem.tail _ (List.Mem.head _); have cA0 : w4.cell? ⟨g5, 0, none⟩ = some (.int .i64 x0) := (by rw [hX4.cell hmA 0]; rfl); have cB0 : w4.cell? ⟨w.heap.size, 0, none⟩ = some (.int .i64 0) := (by rw [hX4.cell hmB 0]; rfl); have fB0 := hX4.fz hmB 0; clear hX4 hD4 hn4 hc4 hm4 hmA hmB))
      have HE := hide ((HX4.out.put (k := 1) rfl 0 (.int .i64 x0)))
      have HG := HE.out.at_ (List.Mem.tail _ (List.Mem.head _))
      have HREM := hide (remd_of HKP.out HS.out (by rw [HLL.out, ← HEN.out]; exact HNK.out) HIL.out HF.out HCL.out HFL.out HD4.out)
      have HRR : Hid ((.agg (intsV row).toArray : Value) = .agg #[.int .i64 x0]) := by rw [HROW0.out]; rfl
      refine bodyPost_ret (v := .agg #[.int .i64 x0]) (results_row1 rfl _ _ (w.heap.size) _ #[.int .i64 x0] (0, 0) _ rfl HG Tryz.underlying126 rfl (by kernel_rfl)) rfl ⟨m4, r4, by rw [HRR.out], HE.out.ls, HREM.out, ?_, HC4.out, HM4.out⟩
      rw [HN4.out, ← HEN.out]
      exact HNK.out.symm
set_option maxHeartbeats 4000000 in
set_option maxRecDepth 100000 in
theorem close1_any {h : Hp} {r : Rw} {w : World} (L : LR w h r) (I : Inv h.m) (hn : r.n ≤ 64) (P : Pcs h.m 1 r.ps r.n) :
    Calls Tryz.prog 85 #[r.ptr] w fun e w' => ∃ (m' : HM) (r2 : Rw), e = .returned (.tuple #[]) ∧ LS w h r w' m' r2 ∧ Clsd h.m m' r.ps ∧ r2.ps = [] ∧ r2.n = 0 ∧ r2.closed = true ∧ r2.more = r.more := by
  have HX0 : Hid (LB w h r w h.m r []) := LB.start L
  have HDR : Hid (∀ W m' k r1, LB w h r W m' r1 [] → Inv m' → r1.n = k + 1 → k < 64 → Pcs m' 1 r1.ps (k + 1) → Calls Tryz.prog 102 #[r.ptr] W fun e W' => e = .returned (.tuple #[]) ∧ ∃ (m2 : HM) (r2 : Rw), LB w h r W' m2 r2 [] ∧ Dropd m' m2 1 r1.ps r2.ps k ∧ r2.n = k ∧ r2.closed = r1.closed ∧ r2.more = r1.more) := fun W m' k r1 X I' hk hk64 P => lb_drop1 X I' k hk hk64 P
  have HK2 : Hid (∀ W m' r1, LB w h r W m' r1 [] → W.cell? ⟨r.blk, 2, none⟩ = some (.int .i64 r1.n) ∧ W.cell? ⟨r.blk, 3, none⟩ = some (.bool r1.closed) ∧ W.frozen? ⟨r.blk, 3, none⟩ = false ∧ r.blk < W.heap.size) := fun W m' r1 X => ⟨X.ls.k2, X.ls.k3, X.ls.free 3, X.ls.lt⟩
  have HSC : Hid (∀ W m' r1, LB w h r W m' r1 [] → LB w h r (W.setCell ⟨r.blk, 3, none⟩ (.bool true)) m' { r1 with closed := true } []) := fun W m' r1 X => X.setC true
  have HI := hide I
  have HP := hide P
  have hrp : r.ptr = .pointer (some ⟨r.blk, 0, none⟩) := rfl
  rw [hrp] at HDR ⊢
  have hlt := L.rlt r.blk (.inl rfl)
  obtain ⟨b, eb⟩ : ∃ b, b = r.blk := ⟨_, rfl⟩
  rw [← eb] at HDR HK2 HSC hlt ⊢
  clear hrp eb L I P
  go_enter Tryz.func85, Tryz.ntmps85
  go_wp2_with fail
  go_loopw [] (fun wr => ∃ (m' : HM) (r1 : Rw), r1.n ≤ 64 ∧ LB w h r wr m' r1 [] ∧ Pcs m' 1 r1.ps r1.n ∧ Inv m' ∧ Fr h.m m' r.ps r1.ps ∧ m'.calls = h.m.calls ∧ m'.failIn = h.m.failIn ∧ r1.more = r.more) (fun wr => (match wr.cell? ⟨b, 2, none⟩ with | some (.int _ z) => z.toNat | _ => 0))
  case atStart => exact ⟨h.m, r, hn, HX0.out, HP.out, HI.out, .refl _ _, rfl, rfl, rfl⟩
  case round =>
    obtain ⟨m', r1, h1n, hX, hP, hI, hF, hcl, hfl, hmo⟩ := hrel
    obtain ⟨k2, k3, f3, hbl⟩ := HK2.out _ _ _ hX
    have HX := hide hX
    have HF := hide hF
    have HCL := hide hcl
    have HFL := hide hfl
    have HMO := hide hmo
    have HIM := hide hI
    obtain ⟨n, en⟩ : ∃ n, n = r1.n := ⟨_, rfl⟩
    rw [← en] at hP k2 h1n
    have HPN := hide hP
    have HEN := hide en
    clear hX hF hcl hfl hmo hI hP
    cases n with
    | zero =>
      have hd1 : decide ((0 : Int) < ((0 : Nat) : Int)) = false := by decide
      obtain ⟨e1, hC⟩ := clsd_of HIM.out HPN.out HF.out HCL.out HFL.out
      have HC := hide hC
      have HS := hide (HSC.out _ _ _ HX.out)
      have HE1 := hide e1
      clear e1 hC en
      go_wp2_with fail
      go_end0
      exact ⟨m', _, rfl, HS.out.ls, HC.out, HE1.out, HEN.out.symm, rfl, HMO.out⟩
    | succ k =>
      have hd1 : decide ((0 : Int) < ((k + 1 : Nat) : Int)) = true := by simp
      have hk64 : k < 64 := by omega
      have hk0 : (0 : Int) < (k : Int) + 1 := by omega
      clear en
      go_wp2_with (go_at_call 102; go_loud (refine (HDR.out _ m' k r1 HX.out HIM.out HEN.out.symm hk64 HPN.out).mono ?_; rintro e w4 ⟨rfl, m4, r4, hX4, hD4, hn4, hc4, hm4⟩; have HX4 := hide hX4; have HD4 := hide hD4; have HN4 := hide hn4; have HM4 := hide hm4; have k42 := (HK2.out _ _ _ hX4).1; clear hX4 hD4 hn4 hc4 hm4))
      go_roundw
      case rel =>
        have D := HD4.out
        exact ⟨m4, r4, by rw [HN4.out]; omega, HX4.out, by rw [HN4.out]; exact D.pcs, D.inv, HF.out.trans D.fr, D.calls.trans HCL.out, D.failIn.trans HFL.out, HM4.out.trans HMO.out⟩
      case measure =>
        rw [k42, k2, HN4.out]
        simp
section
variable {w W : World} {h : Hp} {r r1 : Rw} {m : HM} {bs : List Loc} {Ls : List (List Int)}
theorem lb_insert1 (X : LB w h r W m r1 bs) (I : Inv m) (K : Kp m 1 r1.ps Ls) (hl : Ls.length = r1.n) (hc : m.calls < 1000000000) (hb : BdL Ls) (i : Nat) (hi : i ≤ r1.n) (x0 : Int) :
    Calls Tryz.prog 90 #[r.ptr, .int .i64 i, .agg #[.int .i64 x0]] W fun e W' => ∃ (ok : Bool) (m' : HM) (r2 : Rw), e = .returned (.int .i64 (if ok then 0 else 3)) ∧ LB w h r W' m' r2 bs ∧ Insd m m' 1 r1.ps r2.ps Ls i [x0] ok ∧ r2.n = r1.n + (if ok then 1 else 0) ∧ r2.closed = r1.closed ∧ r2.more = r1.more := by
  have hrb := X.ls.rb
  refine (X.call (P := fun e W' m' r2 => ∃ ok : Bool, e = .returned (.int .i64 (if ok then 0 else 3)) ∧ Insd m m' 1 r1.ps r2.ps Ls i [x0] ok ∧ r2.n = r1.n + (if ok then 1 else 0) ∧ r2.closed = r1.closed ∧ r2.more = r1.more) fun h1 L e1 e2 e3 => ?_).mono ?_
  · have := insert1_any L (by rw [e1]; exact I) (by rw [e1]; exact K) hl (by rw [e3]; exact hc) hb i hi x0
    unfold Rw.ptr at this ⊢
    rw [hrb, e1] at this
    refine this.mono ?_
    rintro e W' ⟨ok, m', r2, he, hX, hG⟩
    exact ⟨m', r2, hX, ok, he, hG⟩
  · rintro e W' ⟨m2, r2, hX, ok, he, hG⟩
    exact ⟨ok, m2, r2, he, hX, hG⟩
theorem lb_remove1 (X : LB w h r W m r1 bs) (I : Inv m) (K : Kp m 1 r1.ps Ls) (hl : Ls.length = r1.n) (hb : BdL Ls) (i : Nat) {row : List Int} (hrow : Ls[i]? = some row) :
    Calls Tryz.prog 70 #[r.ptr, .int .i64 i] W fun e W' => e = .returned (.agg (intsV row).toArray) ∧ ∃ (m' : HM) (r2 : Rw), LB w h r W' m' r2 bs ∧ Remd m m' 1 r1.ps r2.ps Ls i ∧ r2.n + 1 = r1.n ∧ r2.closed = r1.closed ∧ r2.more = r1.more := by
  have hrb := X.ls.rb
  refine (X.call (P := fun e W' m' r2 => e = .returned (.agg (intsV row).toArray) ∧ Remd m m' 1 r1.ps r2.ps Ls i ∧ r2.n + 1 = r1.n ∧ r2.closed = r1.closed ∧ r2.more = r1.more) fun h1 L e1 e2 e3 => ?_).mono ?_
  · have := remove1_any L (by rw [e1]; exact I) (by rw [e1]; exact K) hl hb i hrow
    unfold Rw.ptr at this ⊢
    rw [hrb, e1] at this
    refine this.mono ?_
    rintro e W' ⟨m', r2, he, hX, hG⟩
    exact ⟨m', r2, hX, he, hG⟩
  · rintro e W' ⟨m2, r2, hX, he, hG⟩
    exact ⟨he, m2, r2, hX, hG⟩
theorem lb_close1 (X : LB w h r W m r1 bs) (I : Inv m) (hn : r1.n ≤ 64) (P : Pcs m 1 r1.ps r1.n) :
    Calls Tryz.prog 85 #[r.ptr] W fun e W' => e = .returned (.tuple #[]) ∧ ∃ (m' : HM) (r2 : Rw), LB w h r W' m' r2 bs ∧ Clsd m m' r1.ps ∧ r2.ps = [] ∧ r2.n = 0 ∧ r2.closed = true ∧ r2.more = r1.more := by
  have hrb := X.ls.rb
  refine (X.call (P := fun e W' m' r2 => e = .returned (.tuple #[]) ∧ Clsd m m' r1.ps ∧ r2.ps = [] ∧ r2.n = 0 ∧ r2.closed = true ∧ r2.more = r1.more) fun h1 L e1 e2 e3 => ?_).mono ?_
  · have := close1_any L (by rw [e1]; exact I) hn (by rw [e1]; exact P)
    unfold Rw.ptr at this ⊢
    rw [hrb, e1] at this
    refine this.mono ?_
    rintro e W' ⟨m', r2, he, hX, hG⟩
    exact ⟨m', r2, hX, he, hG⟩
  · rintro e W' ⟨m2, r2, hX, he, hG⟩
    exact ⟨he, m2, r2, hX, hG⟩
end
end Go.Proofs.YtdaklffbfadghaaGreat

namespace Go.Proofs.YtdaklffbfadghaaGreat
open Go.RowKit HP
set_option linter.unusedVariables false
set_option linter.unusedSimpArgs false
section
variable {w W : World} {h : Hp} {r r1 : Rw} {m : HM} {bs : List Loc}
theorem row2 {row : List Int} (hl : row.length = 2) : ∃ x0 x1, row = [x0, x1] := by
  match row, hl with
  | [x0, x1], _ => exact ⟨x0, x1, rfl⟩
theorem lb_read2 (X : LB w h r W m r1 bs) (I : Inv m) (i : Nat) (hi : i < 64) {row : List Int} (hr : RowIs m 2 r1.ps i row) (hb : ∀ v ∈ row, -9223372036854775808 ≤ v ∧ v ≤ 9223372036854775807) :
    Calls Tryz.prog 72 #[r.ptr, .int .i64 i] W fun e W' => e = .returned (.agg (intsV row).toArray) ∧ LB w h r W' m r1 bs := by
  obtain ⟨x0, x1, rfl⟩ := row2 (row := row) (by obtain ⟨p, -, hl, -⟩ := hr; exact hl)
  have hrb := X.ls.rb
  refine (X.call (P := fun e W' m2 r2 => e = .returned (.agg (intsV [x0, x1]).toArray) ∧ m2 = m ∧ r2 = r1) fun h1 L e1 e2 e3 => ?_).mono ?_
  · have := read2_any L (by rw [e1]; exact I) i hi (by rw [e1]; exact hr) hb
    unfold Rw.ptr at this ⊢
    rw [hrb, e1] at this
    refine this.mono ?_
    rintro e W' ⟨he, hX⟩
    exact ⟨m, r1, hX, he, rfl, rfl⟩
  · rintro e W' ⟨m2, r2, hX, he, rfl, rfl⟩
    exact ⟨he, hX⟩
theorem lb_write2 (X : LB w h r W m r1 bs) (I : Inv m) (i : Nat) (hi : i < 64) {p : Int} (hp : r1.ps[i / 4]? = some p) (hh : Has m p 64) (row : List Int) (hl : row.length = 2) :
    Calls Tryz.prog 73 #[r.ptr, .int .i64 i, .agg (intsV row).toArray] W fun e W' => e = .returned (.tuple #[]) ∧ ∃ m', LB w h r W' m' r1 bs ∧ Writing m m' p (((i % 4 * (8 * 2) : Nat)) : Int) row (8 * row.length) := by
  obtain ⟨x0, x1, rfl⟩ := row2 hl
  have hrb := X.ls.rb
  refine (X.call (P := fun e W' m2 r2 => e = .returned (.tuple #[]) ∧ r2 = r1 ∧ Writing m m2 p (((i % 4 * (8 * 2) : Nat)) : Int) [x0, x1] (8 * 2)) fun h1 L e1 e2 e3 => ?_).mono ?_
  · have := write2_any L (by rw [e1]; exact I) i hi hp (by rw [e1]; exact hh) x0 x1
    unfold Rw.ptr at this ⊢
    rw [hrb, e1] at this
    refine this.mono ?_
    rintro e W' ⟨m', he, hX, hW⟩
    exact ⟨m', r1, hX, he, rfl, hW⟩
  · rintro e W' ⟨m2, r2, hX, he, rfl, hW⟩
    exact ⟨he, m2, hX, hW⟩
theorem lb_grow2 (X : LB w h r W m r1 bs) (I : Inv m) (hn : r1.n ≤ 64) (P : Pcs m 2 r1.ps r1.n) (hc : m.calls < 1000000000) :
    Calls Tryz.prog 104 #[r.ptr] W fun e W' => ∃ (ok : Bool) (m' : HM) (r2 : Rw), e = .returned (.int .i64 (if ok then 0 else 3)) ∧ LB w h r W' m' r2 bs ∧ Grew m m' 2 r1.ps r2.ps r1.n ok ∧ r2.n = r1.n + (if ok then 1 else 0) ∧ r2.closed = r1.closed ∧ r2.more = r1.more := by
  have hrb := X.ls.rb
  refine (X.call (P := fun e W' m' r2 => ∃ ok : Bool, e = .returned (.int .i64 (if ok then 0 else 3)) ∧ Grew m m' 2 r1.ps r2.ps r1.n ok ∧ r2.n = r1.n + (if ok then 1 else 0) ∧ r2.closed = r1.closed ∧ r2.more = r1.more) fun h1 L e1 e2 e3 => ?_).mono ?_
  · have := grow2_any L (by rw [e1]; exact I) hn (by rw [e1]; exact P) (by rw [e3]; exact hc)
    unfold Rw.ptr at this ⊢
    rw [hrb, e1] at this
    refine this.mono ?_
    rintro e W' ⟨ok, m', r2, he, hX, hG⟩
    exact ⟨m', r2, hX, ok, he, hG⟩
  · rintro e W' ⟨m2, r2, hX, ok, he, hG⟩
    exact ⟨ok, m2, r2, he, hX, hG⟩
theorem lb_drop2 (X : LB w h r W m r1 bs) (I : Inv m) (k : Nat) (hk : r1.n = k + 1) (hk64 : k < 64) (P : Pcs m 2 r1.ps (k + 1)) :
    Calls Tryz.prog 105 #[r.ptr] W fun e W' => e = .returned (.tuple #[]) ∧ ∃ (m' : HM) (r2 : Rw), LB w h r W' m' r2 bs ∧ Dropd m m' 2 r1.ps r2.ps k ∧ r2.n = k ∧ r2.closed = r1.closed ∧ r2.more = r1.more := by
  have hrb := X.ls.rb
  refine (X.call (P := fun e W' m' r2 => e = .returned (.tuple #[]) ∧ Dropd m m' 2 r1.ps r2.ps k ∧ r2.n = k ∧ r2.closed = r1.closed ∧ r2.more = r1.more) fun h1 L e1 e2 e3 => ?_).mono ?_
  · have := drop2_any L (by rw [e1]; exact I) k hk hk64 (by rw [e1]; exact P)
    unfold Rw.ptr at this ⊢
    rw [hrb, e1] at this
    refine this.mono ?_
    rintro e W' ⟨m', r2, he, hX, hG⟩
    exact ⟨m', r2, hX, he, hG⟩
  · rintro e W' ⟨m2, r2, hX, he, hG⟩
    exact ⟨he, m2, r2, hX, hG⟩
end
set_option maxHeartbeats 4000000 in
set_option maxRecDepth 100000 in
theorem insert2_any {h : Hp} {r : Rw} {w : World} {Ls : List (List Int)} (L : LR w h r) (I : Inv h.m) (K : Kp h.m 2 r.ps Ls) (hl : Ls.length = r.n) (hc : h.calls < 1000000000) (hb : BdL Ls) (i : Nat) (hi : i ≤ r.n) (x0 x1 : Int) :
    Calls Tryz.prog 74 #[r.ptr, .int .i64 i, .agg #[.int .i64 x0, .int .i64 x1]] w fun e w' => ∃ (ok : Bool) (m' : HM) (r2 : Rw), e = .returned (.int .i64 (if ok then 0 else 3)) ∧ LS w h r w' m' r2 ∧ Insd h.m m' 2 r.ps r2.ps Ls i [x0, x1] ok ∧ r2.n = r.n + (if ok then 1 else 0) ∧ r2.closed = r.closed ∧ r2.more = r.more := by
  have h64 := K.len
  obtain ⟨t, ht⟩ : ∃ t, t = [x0, x1] := ⟨_, rfl⟩
  have htl : t.length = 2 := by rw [ht]; rfl
  have HIT : Hid ((intsV t).toArray = #[.int .i64 x0, .int .i64 x1]) := by rw [ht]; rfl
  rw [← ht]
  have HX0 : Hid (LB w h r w h.m r []) := LB.start L
  have HGR : Hid (∀ W bs, LB w h r W h.m r bs → Calls Tryz.prog 104 #[r.ptr] W fun e W' => ∃ (ok : Bool) (m' : HM) (r2 : Rw), e = .returned (.int .i64 (if ok then 0 else 3)) ∧ LB w h r W' m' r2 bs ∧ Grew h.m m' 2 r.ps r2.ps r.n ok ∧ r2.n = r.n + (if ok then 1 else 0) ∧ r2.closed = r.closed ∧ r2.more = r.more) := fun W bs X => lb_grow2 X I (by omega) (by rw [← hl]; exact K.pcs) hc
  have HRD : Hid (∀ W bs m' r2 (j : Nat) row (a : Int), LB w h r W m' r2 bs → Inv m' → j < 64 → a = (j : Int) → RowIs m' 2 r2.ps j row → row ∈ Ls → Calls Tryz.prog 72 #[r.ptr, .int .i64 a] W fun e W' => e = .returned (.agg (intsV row).toArray) ∧ LB w h r W' m' r2 bs) := fun W bs m' r2 j row a X I' hj ea hr hm => by
    subst ea
    exact lb_read2 X I' j hj hr (hb row hm)
  have HWR : Hid (∀ W bs m' r2 (j : Nat) p row, LB w h r W m' r2 bs → Inv m' → j < 64 → r2.ps[j / 4]? = some p → Has m' p 64 → row.length = 2 → Calls Tryz.prog 73 #[r.ptr, .int .i64 j, .agg (intsV row).toArray] W fun e W' => e = .returned (.tuple #[]) ∧ ∃ m2, LB w h r W' m2 r2 bs ∧ Writing m' m2 p (((j % 4 * (8 * 2) : Nat)) : Int) row (8 * row.length)) := fun W bs m' r2 j p row X I' hj hp hh hrl => lb_write2 X I' j hj hp hh row hrl
  have HK2 : Hid (∀ W bs m' r2, LB w h r W m' r2 bs → W.cell? ⟨r.blk, 2, none⟩ = some (.int .i64 r2.n) ∧ r.blk < W.heap.size) := fun W bs m' r2 X => ⟨X.ls.k2, X.ls.lt⟩
  have HKP := hide K
  have HLL := hide hl
  have hrp : r.ptr = .pointer (some ⟨r.blk, 0, none⟩) := rfl
  rw [hrp] at HGR HRD HWR ⊢
  have hlt := L.rlt r.blk (.inl rfl)
  obtain ⟨b, eb⟩ : ∃ b, b = r.blk := ⟨_, rfl⟩
  rw [← eb] at HGR HRD HWR HK2 hlt ⊢
  obtain ⟨n, en⟩ : ∃ n, n = r.n := ⟨_, rfl⟩
  have HEN := hide en
  rw [← en] at hi hl
  rw [hl] at h64
  clear K hrp eb L I en hl ht
  go_enter Tryz.func74, Tryz.ntmps74
  go_wp2_with fail
  refine (HGR.out _ _ (HX0.out.alloc #[.int .i64 x0, .int .i64 x1] 64)).mono ?_
  rintro e w2 ⟨ok, m1, r2, rfl, hX2, hG, h2n, h2c, h2m⟩
  have HX2 := hide hX2
  have HG := hide hG
  have H2N := hide h2n
  have H2C := hide h2c
  have H2M := hide h2m
  clear hX2 hG h2n h2c h2m
  cases ok
  · have HIN : Hid (Insd h.m m1 2 r.ps r2.ps Ls i t false) := insd_no HKP.out (by rw [HLL.out]; exact HG.out)
    go_wp2_with fail
    go_ret
    exact ⟨false, m1, r2, rfl, HX2.out.ls, HIN.out, H2N.out, H2C.out, H2M.out⟩
  · obtain ⟨k2, hbl⟩ := HK2.out _ _ _ _ HX2.out
    rw [H2N.out, ← HEN.out, if_pos rfl] at k2
    push_cast at k2
    have hni : (n : Int) ≤ 64 := by omega
    have HUP : Hid (ShUp m1 2 r2.ps Ls n) := by
      have G : Grew h.m m1 2 r.ps r2.ps Ls.length true := by rw [HLL.out]; exact HG.out
      have := G.up HKP.out
      rw [HLL.out, ← HEN.out] at this
      exact this
    have hn64 : n < 64 := by
      rw [HEN.out]
      exact (HG.out.yes rfl).1
    go_wp2_with fail
    go_loopw [8] (fun vk wr => ∃ (k : Nat) (m' : HM), i ≤ k ∧ k ≤ n ∧ vk = .int .i64 (k : Int) ∧ LB w h r wr m' r2 [(w.heap.size, #[.int .i64 x0, .int .i64 x1], 64)] ∧ ShUp m' 2 r2.ps Ls k ∧ Fr m1 m' r2.ps r2.ps ∧ m'.calls = m1.calls ∧ m'.failIn = m1.failIn) (fun vk _ => (intOf vk).toNat)
    case atStart => exact ⟨n, m1, hi, Nat.le_refl _, by go_num, HX2.out, HUP.out, .refl _ _, rfl, rfl⟩
    case round =>
      obtain ⟨k, m', hik, hkn, rfl, hX, hS, hF, hcl, hfl⟩ := hrel
      have HX := hide hX
      have HS := hide hS
      have HF := hide hF
      have HCL := hide hcl
      have HFL := hide hfl
      clear hX hS hF hcl hfl
      obtain ⟨p, hp, -, hh⟩ := HS.out.pcs.at (i := k) (by rw [HLL.out, ← HEN.out]; omega)
      have HP := hide hp
      have HH := hide hh
      clear hp hh
      by_cases hlt2 : i < k
      · have hd1 : decide ((i : Int) < (k : Int)) = true := by simp; omega
        have hlt3 : (i : Int) < (k : Int) := by omega
        obtain ⟨k', ek⟩ : ∃ k', k = k' + 1 := ⟨k - 1, by omega⟩
        have hk' : k' < Ls.length := by rw [HLL.out, ← HEN.out]; omega
        obtain ⟨row, hrow⟩ : ∃ row, Ls[k']? = some row := ⟨Ls[k'], List.getElem?_eq_getElem hk'⟩
        have HROW := hide hrow
        have HRI := hide (HS.out.low k' row (by omega) hrow)
        have HRM := hide (List.mem_of_getElem? hrow)
        have hrl : row.length = 2 := HKP.out.wide HRM.out
        have hki : (k : Int) ≤ 64 := by omega
        have HEK := hide ek
        have hk63 : k' < 64 := by omega
        clear hrow hk' ek
        go_wp2_with (first
          | (go_at_call 72; refine (HRD.out _ _ _ _ k' row _ HX.out HS.out.inv hk63 (by have := HEK.out; omega) HRI.out HRM.out).mono ?_; rintro e w3 ⟨rfl, hX3⟩; have HX3 := hide hX3; clear hX3)
          | (go_at_call 73; refine (HWR.out _ _ _ _ k p row HX3.out HS.out.inv (by omega) HP.out HH.out hrl).mono ?_; rintro e w4 ⟨rfl, m4, hX4, hW4⟩; have HX4 := hide hX4; have HW4 := hide hW4; clear hX4 hW4))
        go_roundw
        case rel =>
          have S := HS.out
          have HP2 := HP.out
          have W4 := HW4.out
          have ek := HEK.out
          rw [ek] at S HP2 W4
          obtain ⟨s1, s2⟩ := S.step HROW.out HP2 hrl W4
          exact ⟨k', m4, by omega, by omega, by subst ek; go_num, HX4.out, s1, HF.out.trans s2, W4.calls.trans HCL.out, W4.failIn.trans HFL.out⟩
        case measure => simp [intOf] <;> omega
      · have hd1 : decide ((i : Int) < (k : Int)) = false := by simp; omega
        have hki : k = i := by omega
        have HWT : Hid (Calls Tryz.prog 73 #[.pointer (some ⟨b, 0, none⟩), .int .i64 i, .agg #[.int .i64 x0, .int .i64 x1]] wr fun e W' => e = .returned (.tuple #[]) ∧ ∃ m2, LB w h r W' m2 r2 [(w.heap.size, #[.int .i64 x0, .int .i64 x1], 64)] ∧ Writing m' m2 p (((i % 4 * (8 * 2) : Nat)) : Int) t (8 * t.length)) := by
          have := HWR.out wr _ m' r2 i p t HX.out HS.out.inv (by omega) (by rw [← hki]; exact HP.out) HH.out htl
          rw [HIT.out] at this
          exact this
        have cA0 : wr.cell? ⟨w.heap.size, 0, none⟩ = some (.int .i64 x0) := by rw [HX.out.cell (List.Mem.head _) 0]; rfl
        have cA1 : wr.cell? ⟨w.heap.size, 1, none⟩ = some (.int .i64 x1) := by rw [HX.out.cell (List.Mem.head _) 1]; rfl
        have HIN : Hid (∀ m2, Writing m' m2 p (((i % 4 * (8 * 2) : Nat)) : Int) t (8 * t.length) → Insd h.m m2 2 r.ps r2.ps Ls i t true) := fun m2 W2 => by
          have G : Grew h.m m1 2 r.ps r2.ps Ls.length true := by rw [HLL.out]; exact HG.out
          have S := HS.out
          rw [hki] at S
          exact insd_yes G S HF.out HCL.out HFL.out (by rw [HLL.out, ← HEN.out]; exact hi) (by rw [← hki]; exact HP.out) htl W2
        clear hki
        go_wp2_with (go_at_call 73; refine HWT.out.mono ?_; rintro e w4 ⟨rfl, m4, hX4, hW4⟩; have HX4 := hide hX4; have HW4 := hide hW4; clear hX4 hW4)
        go_ret
        exact ⟨true, m4, r2, rfl, HX4.out.ls, HIN.out _ HW4.out, H2N.out, H2C.out, H2M.out⟩
set_option maxHeartbeats 4000000 in
set_option maxRecDepth 100000 in
theorem remove2_any {h : Hp} {r : Rw} {w : World} {Ls : List (List Int)} (L : LR w h r) (I : Inv h.m) (K : Kp h.m 2 r.ps Ls) (hl : Ls.length = r.n) (hb : BdL Ls) (i : Nat) {row : List Int} (hrow : Ls[i]? = some row) :
    Calls Tryz.prog 76 #[r.ptr, .int .i64 i] w fun e w' => ∃ (m' : HM) (r2 : Rw), e = .returned (.agg (intsV row).toArray) ∧ LS w h r w' m' r2 ∧ Remd h.m m' 2 r.ps r2.ps Ls i ∧ r2.n + 1 = r.n ∧ r2.closed = r.closed ∧ r2.more = r.more := by
  have h64 := K.len
  have hil := (List.getElem?_eq_some_iff.1 hrow).1
  obtain ⟨x0, x1, erow⟩ := row2 (K.wide (List.mem_of_getElem? hrow))
  have HX0 : Hid (LB w h r w h.m r []) := LB.start L
  have HR1 : Hid (∀ W bs, LB w h r W h.m r bs → Calls Tryz.prog 72 #[r.ptr, .int .i64 i] W fun e W' => e = .returned (.agg #[.int .i64 x0, .int .i64 x1]) ∧ LB w h r W' h.m r bs) := fun W bs X => by
    have := lb_read2 X I i (by omega) (K.row i row hrow) (hb row (List.mem_of_getElem? hrow))
    rw [erow] at this
    exact this
  have HRD : Hid (∀ W bs m' (j : Nat) row (a : Int), LB w h r W m' r bs → Inv m' → j < 64 → a = (j : Int) → RowIs m' 2 r.ps j row → row ∈ Ls → Calls Tryz.prog 72 #[r.ptr, .int .i64 a] W fun e W' => e = .returned (.agg (intsV row).toArray) ∧ LB w h r W' m' r bs) := fun W bs m' j row a X I' hj ea hr hm => by
    subst ea
    exact lb_read2 X I' j hj hr (hb row hm)
  have HWR : Hid (∀ W bs m' (j : Nat) p row, LB w h r W m' r bs → Inv m' → j < 64 → r.ps[j / 4]? = some p → Has m' p 64 → row.length = 2 → Calls Tryz.prog 73 #[r.ptr, .int .i64 j, .agg (intsV row).toArray] W fun e W' => e = .returned (.tuple #[]) ∧ ∃ m2, LB w h r W' m2 r bs ∧ Writing m' m2 p (((j % 4 * (8 * 2) : Nat)) : Int) row (8 * row.length)) := fun W bs m' j p row X I' hj hp hh hrl => lb_write2 X I' j hj hp hh row hrl
  have HDR : Hid (∀ W bs m' k, LB w h r W m' r bs → Inv m' → r.n = k + 1 → k < 64 → Pcs m' 2 r.ps (k + 1) → Calls Tryz.prog 105 #[r.ptr] W fun e W' => e = .returned (.tuple #[]) ∧ ∃ (m2 : HM) (r2 : Rw), LB w h r W' m2 r2 bs ∧ Dropd m' m2 2 r.ps r2.ps k ∧ r2.n = k ∧ r2.closed = r.closed ∧ r2.more = r.more) := fun W bs m' k X I' hk hk64 P => lb_drop2 X I' k hk hk64 P
  have HK2 : Hid (∀ W bs m', LB w h r W m' r bs → W.cell? ⟨r.blk, 2, none⟩ = some (.int .i64 r.n) ∧ r.blk < W.heap.size) := fun W bs m' X => ⟨X.ls.k2, X.ls.lt⟩
  have HKP := hide K
  have HLL := hide hl
  have HST := hide (ShDn.start I K hil)
  have HROW0 := hide erow
  have hrp : r.ptr = .pointer (some ⟨r.blk, 0, none⟩) := rfl
  rw [hrp] at HR1 HRD HWR HDR ⊢
  have hlt := L.rlt r.blk (.inl rfl)
  obtain ⟨b, eb⟩ : ∃ b, b = r.blk := ⟨_, rfl⟩
  rw [← eb] at HR1 HRD HWR HDR HK2 hlt ⊢
  obtain ⟨n, en⟩ : ∃ n, n = r.n := ⟨_, rfl⟩
  have HEN := hide en
  have hin : i < n := by omega
  have hn64 : n ≤ 64 := by omega
  rw [← en] at HK2
  have HIL := hide hil
  clear K hrp eb L I en hl hrow erow h64 hil
  go_enter Tryz.func76, Tryz.ntmps76
  go_wp2_with (go_at_call 72; refine (HR1.out _ _ (HX0.out.alloc #[.int .i64 0, .int .i64 0] 64)).mono ?_; rintro e w2 ⟨rfl, hX2⟩; have HX2 := hide hX2; have hws := hX2.lt (List.Mem.head _); clear hX2)
  have HX3 := hide (HX2.out.alloc #[.int .i64 x0, .int .i64 x1] 64)
  have hg5 : w.heap.size < w2.heap.size := hws
  obtain ⟨g5, eg5⟩ : ∃ g5, g5 = w2.heap.size := ⟨_, rfl⟩
  rw [← eg5] at HX3 hg5 ⊢
  clear eg5 hws HX2
  go_loopw [6] (fun vk wr => ∃ (k : Nat) (m' : HM), i ≤ k ∧ k < n ∧ vk = .int .i64 (k : Int) ∧ LB w h r wr m' r [(g5, #[.int .i64 x0, .int .i64 x1], 64), (w.heap.size, #[.int .i64 0, .int .i64 0], 64)] ∧ ShDn m' 2 r.ps Ls i k ∧ Fr h.m m' r.ps r.ps ∧ m'.calls = h.m.calls ∧ m'.failIn = h.m.failIn) (fun vk _ => n - (intOf vk).toNat)
  case atStart => exact ⟨i, h.m, Nat.le_refl _, hin, by go_num, HX3.out, HST.out, .refl _ _, rfl, rfl⟩
  case round =>
    obtain ⟨k, m', hik, hkn, rfl, hX, hS, hF, hcl, hfl⟩ := hrel
    have HX := hide hX
    have HS := hide hS
    have HF := hide hF
    have HCL := hide hcl
    have HFL := hide hfl
    clear hX hS hF hcl hfl
    obtain ⟨k2, hbl⟩ := HK2.out _ _ _ HX.out
    have hni : (n : Int) ≤ 64 := by omega
    have hkni : (k : Int) < (n : Int) := by omega
    by_cases hlt2 : k + 1 < n
    · have hd1 : decide ((k : Int) < (n : Int) - 1) = true := by simp; omega
      obtain ⟨p, hp, -, hh⟩ := HS.out.pcs.at (i := k) (by rw [HLL.out, ← HEN.out]; omega)
      have HP := hide hp
      have HH := hide hh
      obtain ⟨row1, hrow1⟩ : ∃ row1, Ls[k + 1]? = some row1 := ⟨Ls[k + 1]'(by rw [HLL.out, ← HEN.out]; omega), List.getElem?_eq_getElem _⟩
      have HROW := hide hrow1
      have HRI := hide (HS.out.high (k + 1) row1 (by omega) hrow1)
      have HRM := hide (List.mem_of_getElem? hrow1)
      have hrl : row1.length = 2 := HKP.out.wide HRM.out
      have hk63 : k + 1 < 64 := by omega
      clear hrow1 hp hh
      go_wp2_with (first
        | (go_at_call 72; refine (HRD.out _ _ _ (k + 1) row1 _ HX.out HS.out.inv hk63 (by omega) HRI.out HRM.out).mono ?_; rintro e w3 ⟨rfl, hX3⟩; have HX3 := hide hX3; clear hX3)
        | (go_at_call 73; refine (HWR.out _ _ _ k p row1 HX3.out HS.out.inv (by omega) HP.out HH.out hrl).mono ?_; rintro e w4 ⟨rfl, m4, hX4, hW4⟩; have HX4 := hide hX4; have HW4 := hide hW4; clear hX4 hW4))
      go_roundw
      case rel =>
        obtain ⟨s1, s2⟩ := HS.out.step hik HROW.out HP.out hrl HW4.out
        exact ⟨k + 1, m4, by omega, by omega, by go_num, HX4.out, s1, HF.out.trans s2, HW4.out.calls.trans HCL.out, HW4.out.failIn.trans HFL.out⟩
      case measure => simp [intOf] <;> omega
    · have hd1 : decide ((k : Int) < (n : Int) - 1) = false := by simp; omega
      have HNK : Hid (n = k + 1) := by show n = k + 1; omega
      have hk64 : k < 64 := by omega
      go_wp2_with (go_at_call 105; go_loud (refine (HDR.out _ _ _ k HX.out HS.out.inv (by rw [← HEN.out]; exact HNK.out) hk64 (by have := HS.out.pcs; rw [HLL.out, ← HEN.out, HNK.out] at this; exact this)).mono ?_; rintro e w4 ⟨rfl, m4, r4, hX4, hD4, hn4, hc4, hm4⟩; have HX4 := hide hX4; have HD4 := hide hD4; have HN4 := hide hn4; have HC4 := hide hc4; have HM4 := hide hm4; have hmA : ((g5, #[.int .i64 x0, .int .i64 x1], 64) : Loc) ∈ ([(g5, #[.int .i64 x0, .int .i64 x1], 64), (w.heap.size, #[.int .i64 0, .int .i64 0], 64)] : List Loc) := List.Mem.head _; have hmB : ((w.heap.size, #[.int .i64 0, .int .i64 0], 64) : Loc) ∈ ([(g5, #[.int .i64 x0, .int .i64 x1], 64), (w.heap.size, #[.int .i64 0, .int .i64 0], 64)] : List Loc) := List.Mem.tail _ (List.Mem.head _); have cA0 : w4.cell? ⟨g5, 0, none⟩ = some (.int .i64 x0) := (by rw [hX4.cell hmA 0]; rfl); have cB0 : w4.cell? ⟨w.heap.size, 0, none⟩ = some (.int .i64 0) := (by rw [hX4.cell hmB 0]; rfl); have fB0 := hX4.fz hmB 0; have cA1 : w4.cell? ⟨g5, 1, none⟩ = some (.int .i64 x1) := (by rw [hX4.cell hmA 1]; rfl); have cB1 : w4.cell? ⟨w.heap.size, 1, none⟩ = some (.int .i64 0) := (by rw [hX4.cell hmB 1]; rfl); have fB1 := hX4.fz hmB 1; clear hX4 hD4 hn4 hc4 hm4 hmA hmB))
      have HE := hide (((HX4.out.put (k := 1) rfl 0 (.int .i64 x0)).put (k := 1) rfl 1 (.int .i64 x1)))
      have HG := HE.out.at_ (List.Mem.tail _ (List.Mem.head _))
      have HREM := hide (remd_of HKP.out HS.out (by rw [HLL.out, ← HEN.out]; exact HNK.out) HIL.out HF.out HCL.out HFL.out HD4.out)
      have HRR : Hid ((.agg (intsV row).toArray : Value) = .agg #[.int .i64 x0, .int .i64 x1]) := by rw [HROW0.out]; rfl
      refine bodyPost_ret (v := .agg #[.int .i64 x0, .int .i64 x1]) (results_row1 rfl _ _ (w.heap.size) _ #[.int .i64 x0, .int .i64 x1] (0, 0) _ rfl HG Tryz.underlying64 rfl (by kernel_rfl)) rfl ⟨m4, r4, by rw [HRR.out], HE.out.ls, HREM.out, ?_, HC4.out, HM4.out⟩
      rw [HN4.out, ← HEN.out]
      exact HNK.out.symm
set_option maxHeartbeats 4000000 in
set_option maxRecDepth 100000 in
theorem close2_any {h : Hp} {r : Rw} {w : World} (L : LR w h r) (I : Inv h.m) (hn : r.n ≤ 64) (P : Pcs h.m 2 r.ps r.n) :
    Calls Tryz.prog 87 #[r.ptr] w fun e w' => ∃ (m' : HM) (r2 : Rw), e = .returned (.tuple #[]) ∧ LS w h r w' m' r2 ∧ Clsd h.m m' r.ps ∧ r2.ps = [] ∧ r2.n = 0 ∧ r2.closed = true ∧ r2.more = r.more := by
  have HX0 : Hid (LB w h r w h.m r []) := LB.start L
  have HDR : Hid (∀ W m' k r1, LB w h r W m' r1 [] → Inv m' → r1.n = k + 1 → k < 64 → Pcs m' 2 r1.ps (k + 1) → Calls Tryz.prog 105 #[r.ptr] W fun e W' => e = .returned (.tuple #[]) ∧ ∃ (m2 : HM) (r2 : Rw), LB w h r W' m2 r2 [] ∧ Dropd m' m2 2 r1.ps r2.ps k ∧ r2.n = k ∧ r2.closed = r1.closed ∧ r2.more = r1.more) := fun W m' k r1 X I' hk hk64 P => lb_drop2 X I' k hk hk64 P
  have HK2 : Hid (∀ W m' r1, LB w h r W m' r1 [] → W.cell? ⟨r.blk, 2, none⟩ = some (.int .i64 r1.n) ∧ W.cell? ⟨r.blk, 3, none⟩ = some (.bool r1.closed) ∧ W.frozen? ⟨r.blk, 3, none⟩ = false ∧ r.blk < W.heap.size) := fun W m' r1 X => ⟨X.ls.k2, X.ls.k3, X.ls.free 3, X.ls.lt⟩
  have HSC : Hid (∀ W m' r1, LB w h r W m' r1 [] → LB w h r (W.setCell ⟨r.blk, 3, none⟩ (.bool true)) m' { r1 with closed := true } []) := fun W m' r1 X => X.setC true
  have HI := hide I
  have HP := hide P
  have hrp : r.ptr = .pointer (some ⟨r.blk, 0, none⟩) := rfl
  rw [hrp] at HDR ⊢
  have hlt := L.rlt r.blk (.inl rfl)
  obtain ⟨b, eb⟩ : ∃ b, b = r.blk := ⟨_, rfl⟩
  rw [← eb] at HDR HK2 HSC hlt ⊢
  clear hrp eb L I P
  go_enter Tryz.func87, Tryz.ntmps87
  go_wp2_with fail
  go_loopw [] (fun wr => ∃ (m' : HM) (r1 : Rw), r1.n ≤ 64 ∧ LB w h r wr m' r1 [] ∧ Pcs m' 2 r1.ps r1.n ∧ Inv m' ∧ Fr h.m m' r.ps r1.ps ∧ m'.calls = h.m.calls ∧ m'.failIn = h.m.failIn ∧ r1.more = r.more) (fun wr => (match wr.cell? ⟨b, 2, none⟩ with | some (.int _ z) => z.toNat | _ => 0))
  case atStart => exact ⟨h.m, r, hn, HX0.out, HP.out, HI.out, .refl _ _, rfl, rfl, rfl⟩
  case round =>
    obtain ⟨m', r1, h1n, hX, hP, hI, hF, hcl, hfl, hmo⟩ := hrel
    obtain ⟨k2, k3, f3, hbl⟩ := HK2.out _ _ _ hX
    have HX := hide hX
    have HF := hide hF
    have HCL := hide hcl
    have HFL := hide hfl
    have HMO := hide hmo
    have HIM := hide hI
    obtain ⟨n, en⟩ : ∃ n, n = r1.n := ⟨_, rfl⟩
    rw [← en] at hP k2 h1n
    have HPN := hide hP
    have HEN := hide en
    clear hX hF hcl hfl hmo hI hP
    cases n with
    | zero =>
      have hd1 : decide ((0 : Int) < ((0 : Nat) : Int)) = false := by decide
      obtain ⟨e1, hC⟩ := clsd_of HIM.out HPN.out HF.out HCL.out HFL.out
      have HC := hide hC
      have HS := hide (HSC.out _ _ _ HX.out)
      have HE1 := hide e1
      clear e1 hC en
      go_wp2_with fail
      go_end0
      exact ⟨m', _, rfl, HS.out.ls, HC.out, HE1.out, HEN.out.symm, rfl, HMO.out⟩
    | succ k =>
      have hd1 : decide ((0 : Int) < ((k + 1 : Nat) : Int)) = true := by simp
      have hk64 : k < 64 := by omega
      have hk0 : (0 : Int) < (k : Int) + 1 := by omega
      clear en
      go_wp2_with (go_at_call 105; go_loud (refine (HDR.out _ m' k r1 HX.out HIM.out HEN.out.symm hk64 HPN.out).mono ?_; rintro e w4 ⟨rfl, m4, r4, hX4, hD4, hn4, hc4, hm4⟩; have HX4 := hide hX4; have HD4 := hide hD4; have HN4 := hide hn4; have HM4 := hide hm4; have k42 := (HK2.out _ _ _ hX4).1; clear hX4 hD4 hn4 hc4 hm4))
      go_roundw
      case rel =>
        have D := HD4.out
        exact ⟨m4, r4, by rw [HN4.out]; omega, HX4.out, by rw [HN4.out]; exact D.pcs, D.inv, HF.out.trans D.fr, D.calls.trans HCL.out, D.failIn.trans HFL.out, HM4.out.trans HMO.out⟩
      case measure =>
        rw [k42, k2, HN4.out]
        simp
section
variable {w W : World} {h : Hp} {r r1 : Rw} {m : HM} {bs : List Loc} {Ls : List (List Int)}
theorem lb_insert2 (X : LB w h r W m r1 bs) (I : Inv m) (K : Kp m 2 r1.ps Ls) (hl : Ls.length = r1.n) (hc : m.calls < 1000000000) (hb : BdL Ls) (i : Nat) (hi : i ≤ r1.n) (x0 x1 : Int) :
    Calls Tryz.prog 74 #[r.ptr, .int .i64 i, .agg #[.int .i64 x0, .int .i64 x1]] W fun e W' => ∃ (ok : Bool) (m' : HM) (r2 : Rw), e = .returned (.int .i64 (if ok then 0 else 3)) ∧ LB w h r W' m' r2 bs ∧ Insd m m' 2 r1.ps r2.ps Ls i [x0, x1] ok ∧ r2.n = r1.n + (if ok then 1 else 0) ∧ r2.closed = r1.closed ∧ r2.more = r1.more := by
  have hrb := X.ls.rb
  refine (X.call (P := fun e W' m' r2 => ∃ ok : Bool, e = .returned (.int .i64 (if ok then 0 else 3)) ∧ Insd m m' 2 r1.ps r2.ps Ls i [x0, x1] ok ∧ r2.n = r1.n + (if ok then 1 else 0) ∧ r2.closed = r1.closed ∧ r2.more = r1.more) fun h1 L e1 e2 e3 => ?_).mono ?_
  · have := insert2_any L (by rw [e1]; exact I) (by rw [e1]; exact K) hl (by rw [e3]; exact hc) hb i hi x0 x1
    unfold Rw.ptr at this ⊢
    rw [hrb, e1] at this
    refine this.mono ?_
    rintro e W' ⟨ok, m', r2, he, hX, hG⟩
    exact ⟨m', r2, hX, ok, he, hG⟩
  · rintro e W' ⟨m2, r2, hX, ok, he, hG⟩
    exact ⟨ok, m2, r2, he, hX, hG⟩
theorem lb_remove2 (X : LB w h r W m r1 bs) (I : Inv m) (K : Kp m 2 r1.ps Ls) (hl : Ls.length = r1.n) (hb : BdL Ls) (i : Nat) {row : List Int} (hrow : Ls[i]? = some row) :
    Calls Tryz.prog 76 #[r.ptr, .int .i64 i] W fun e W' => e = .returned (.agg (intsV row).toArray) ∧ ∃ (m' : HM) (r2 : Rw), LB w h r W' m' r2 bs ∧ Remd m m' 2 r1.ps r2.ps Ls i ∧ r2.n + 1 = r1.n ∧ r2.closed = r1.closed ∧ r2.more = r1.more := by
  have hrb := X.ls.rb
  refine (X.call (P := fun e W' m' r2 => e = .returned (.agg (intsV row).toArray) ∧ Remd m m' 2 r1.ps r2.ps Ls i ∧ r2.n + 1 = r1.n ∧ r2.closed = r1.closed ∧ r2.more = r1.more) fun h1 L e1 e2 e3 => ?_).mono ?_
  · have := remove2_any L (by rw [e1]; exact I) (by rw [e1]; exact K) hl hb i hrow
    unfold Rw.ptr at this ⊢
    rw [hrb, e1] at this
    refine this.mono ?_
    rintro e W' ⟨m', r2, he, hX, hG⟩
    exact ⟨m', r2, hX, he, hG⟩
  · rintro e W' ⟨m2, r2, hX, he, hG⟩
    exact ⟨he, m2, r2, hX, hG⟩
theorem lb_close2 (X : LB w h r W m r1 bs) (I : Inv m) (hn : r1.n ≤ 64) (P : Pcs m 2 r1.ps r1.n) :
    Calls Tryz.prog 87 #[r.ptr] W fun e W' => e = .returned (.tuple #[]) ∧ ∃ (m' : HM) (r2 : Rw), LB w h r W' m' r2 bs ∧ Clsd m m' r1.ps ∧ r2.ps = [] ∧ r2.n = 0 ∧ r2.closed = true ∧ r2.more = r1.more := by
  have hrb := X.ls.rb
  refine (X.call (P := fun e W' m' r2 => e = .returned (.tuple #[]) ∧ Clsd m m' r1.ps ∧ r2.ps = [] ∧ r2.n = 0 ∧ r2.closed = true ∧ r2.more = r1.more) fun h1 L e1 e2 e3 => ?_).mono ?_
  · have := close2_any L (by rw [e1]; exact I) hn (by rw [e1]; exact P)
    unfold Rw.ptr at this ⊢
    rw [hrb, e1] at this
    refine this.mono ?_
    rintro e W' ⟨m', r2, he, hX, hG⟩
    exact ⟨m', r2, hX, he, hG⟩
  · rintro e W' ⟨m2, r2, hX, he, hG⟩
    exact ⟨he, m2, r2, hX, hG⟩
end
end Go.Proofs.YtdaklffbfadghaaGreat

namespace Go.Proofs.YtdaklffbfadghaaGreat
open Go.RowKit HP
set_option linter.unusedVariables false
set_option linter.unusedSimpArgs false
section
variable {w W : World} {h : Hp} {r r1 : Rw} {m : HM} {bs : List Loc}
theorem row3 {row : List Int} (hl : row.length = 3) : ∃ x0 x1 x2, row = [x0, x1, x2] := by
  match row, hl with
  | [x0, x1, x2], _ => exact ⟨x0, x1, x2, rfl⟩
theorem lb_read3 (X : LB w h r W m r1 bs) (I : Inv m) (i : Nat) (hi : i < 64) {row : List Int} (hr : RowIs m 3 r1.ps i row) (hb : ∀ v ∈ row, -9223372036854775808 ≤ v ∧ v ≤ 9223372036854775807) :
    Calls Tryz.prog 81 #[r.ptr, .int .i64 i] W fun e W' => e = .returned (.agg (intsV row).toArray) ∧ LB w h r W' m r1 bs := by
  obtain ⟨x0, x1, x2, rfl⟩ := row3 (row := row) (by obtain ⟨p, -, hl, -⟩ := hr; exact hl)
  have hrb := X.ls.rb
  refine (X.call (P := fun e W' m2 r2 => e = .returned (.agg (intsV [x0, x1, x2]).toArray) ∧ m2 = m ∧ r2 = r1) fun h1 L e1 e2 e3 => ?_).mono ?_
  · have := read3_any L (by rw [e1]; exact I) i hi (by rw [e1]; exact hr) hb
    unfold Rw.ptr at this ⊢
    rw [hrb, e1] at this
    refine this.mono ?_
    rintro e W' ⟨he, hX⟩
    exact ⟨m, r1, hX, he, rfl, rfl⟩
  · rintro e W' ⟨m2, r2, hX, he, rfl, rfl⟩
    exact ⟨he, hX⟩
theorem lb_write3 (X : LB w h r W m r1 bs) (I : Inv m) (i : Nat) (hi : i < 64) {p : Int} (hp : r1.ps[i / 4]? = some p) (hh : Has m p 96) (row : List Int) (hl : row.length = 3) :
    Calls Tryz.prog 80 #[r.ptr, .int .i64 i, .agg (intsV row).toArray] W fun e W' => e = .returned (.tuple #[]) ∧ ∃ m', LB w h r W' m' r1 bs ∧ Writing m m' p (((i % 4 * (8 * 3) : Nat)) : Int) row (8 * row.length) := by
  obtain ⟨x0, x1, x2, rfl⟩ := row3 hl
  have hrb := X.ls.rb
  refine (X.call (P := fun e W' m2 r2 => e = .returned (.tuple #[]) ∧ r2 = r1 ∧ Writing m m2 p (((i % 4 * (8 * 3) : Nat)) : Int) [x0, x1, x2] (8 * 3)) fun h1 L e1 e2 e3 => ?_).mono ?_
  · have := write3_any L (by rw [e1]; exact I) i hi hp (by rw [e1]; exact hh) x0 x1 x2
    unfold Rw.ptr at this ⊢
    rw [hrb, e1] at this
    refine this.mono ?_
    rintro e W' ⟨m', he, hX, hW⟩
    exact ⟨m', r1, hX, he, rfl, hW⟩
  · rintro e W' ⟨m2, r2, hX, he, rfl, hW⟩
    exact ⟨he, m2, hX, hW⟩
theorem lb_grow3 (X : LB w h r W m r1 bs) (I : Inv m) (hn : r1.n ≤ 64) (P : Pcs m 3 r1.ps r1.n) (hc : m.calls < 1000000000) :
    Calls Tryz.prog 106 #[r.ptr] W fun e W' => ∃ (ok : Bool) (m' : HM) (r2 : Rw), e = .returned (.int .i64 (if ok then 0 else 3)) ∧ LB w h r W' m' r2 bs ∧ Grew m m' 3 r1.ps r2.ps r1.n ok ∧ r2.n = r1.n + (if ok then 1 else 0) ∧ r2.closed = r1.closed ∧ r2.more = r1.more := by
  have hrb := X.ls.rb
  refine (X.call (P := fun e W' m' r2 => ∃ ok : Bool, e = .returned (.int .i64 (if ok then 0 else 3)) ∧ Grew m m' 3 r1.ps r2.ps r1.n ok ∧ r2.n = r1.n + (if ok then 1 else 0) ∧ r2.closed = r1.closed ∧ r2.more = r1.more) fun h1 L e1 e2 e3 => ?_).mono ?_
  · have := grow3_any L (by rw [e1]; exact I) hn (by rw [e1]; exact P) (by rw [e3]; exact hc)
    unfold Rw.ptr at this ⊢
    rw [hrb, e1] at this
    refine this.mono ?_
    rintro e W' ⟨ok, m', r2, he, hX, hG⟩
    exact ⟨m', r2, hX, ok, he, hG⟩
  · rintro e W' ⟨m2, r2, hX, ok, he, hG⟩
    exact ⟨ok, m2, r2, he, hX, hG⟩
theorem lb_drop3 (X : LB w h r W m r1 bs) (I : Inv m) (k : Nat) (hk : r1.n = k + 1) (hk64 : k < 64) (P : Pcs m 3 r1.ps (k + 1)) :
    Calls Tryz.prog 82 #[r.ptr] W fun e W' => e = .returned (.tuple #[]) ∧ ∃ (m' : HM) (r2 : Rw), LB w h r W' m' r2 bs ∧ Dropd m m' 3 r1.ps r2.ps k ∧ r2.n = k ∧ r2.closed = r1.closed ∧ r2.more = r1.more := by
  have hrb := X.ls.rb
  refine (X.call (P := fun e W' m' r2 => e = .returned (.tuple #[]) ∧ Dropd m m' 3 r1.ps r2.ps k ∧ r2.n = k ∧ r2.closed = r1.closed ∧ r2.more = r1.more) fun h1 L e1 e2 e3 => ?_).mono ?_
  · have := drop3_any L (by rw [e1]; exact I) k hk hk64 (by rw [e1]; exact P)
    unfold Rw.ptr at this ⊢
    rw [hrb, e1] at this
    refine this.mono ?_
    rintro e W' ⟨m', r2, he, hX, hG⟩
    exact ⟨m', r2, hX, he, hG⟩
  · rintro e W' ⟨m2, r2, hX, he, hG⟩
    exact ⟨he, m2, r2, hX, hG⟩
end
set_option maxHeartbeats 4000000 in
set_option maxRecDepth 100000 in
theorem insert3_any {h : Hp} {r : Rw} {w : World} {Ls : List (List Int)} (L : LR w h r) (I : Inv h.m) (K : Kp h.m 3 r.ps Ls) (hl : Ls.length = r.n) (hc : h.calls < 1000000000) (hb : BdL Ls) (i : Nat) (hi : i ≤ r.n) (x0 x1 x2 : Int) :
    Calls Tryz.prog 78 #[r.ptr, .int .i64 i, .agg #[.int .i64 x0, .int .i64 x1, .int .i64 x2]] w fun e w' => ∃ (ok : Bool) (m' : HM) (r2 : Rw), e = .returned (.int .i64 (if ok then 0 else 3)) ∧ LS w h r w' m' r2 ∧ Insd h.m m' 3 r.ps r2.ps Ls i [x0, x1, x2] ok ∧ r2.n = r.n + (if ok then 1 else 0) ∧ r2.closed = r.closed ∧ r2.more = r.more := by
  have h64 := K.len
  obtain ⟨t, ht⟩ : ∃ t, t = [x0, x1, x2] := ⟨_, rfl⟩
  have htl : t.length = 3 := by rw [ht]; rfl
  have HIT : Hid ((intsV t).toArray = #[.int .i64 x0, .int .i64 x1, .int .i64 x2]) := by rw [ht]; rfl
  rw [← ht]
  have HX0 : Hid (LB w h r w h.m r []) := LB.start L
  have HGR : Hid (∀ W bs, LB w h r W h.m r bs → Calls Tryz.prog 106 #[r.ptr] W fun e W' => ∃ (ok : Bool) (m' : HM) (r2 : Rw), e = .returned (.int .i64 (if ok then 0 else 3)) ∧ LB w h r W' m' r2 bs ∧ Grew h.m m' 3 r.ps r2.ps r.n ok ∧ r2.n = r.n + (if ok then 1 else 0) ∧ r2.closed = r.closed ∧ r2.more = r.more) := fun W bs X => lb_grow3 X I (by omega) (by rw [← hl]; exact K.pcs) hc
  have HRD : Hid (∀ W bs m' r2 (j : Nat) row (a : Int), LB w h r W m' r2 bs → Inv m' → j < 64 → a = (j : Int) → RowIs m' 3 r2.ps j row → row ∈ Ls → Calls Tryz.prog 81 #[r.ptr, .int .i64 a] W fun e W' => e = .returned (.agg (intsV row).toArray) ∧ LB w h r W' m' r2 bs) := fun W bs m' r2 j row a X I' hj ea hr hm => by
    subst ea
    exact lb_read3 X I' j hj hr (hb row hm)
  have HWR : Hid (∀ W bs m' r2 (j : Nat) p row, LB w h r W m' r2 bs → Inv m' → j < 64 → r2.ps[j / 4]? = some p → Has m' p 96 → row.length = 3 → Calls Tryz.prog 80 #[r.ptr, .int .i64 j, .agg (intsV row).toArray] W fun e W' => e = .returned (.tuple #[]) ∧ ∃ m2, LB w h r W' m2 r2 bs ∧ Writing m' m2 p (((j % 4 * (8 * 3) : Nat)) : Int) row (8 * row.length)) := fun W bs m' r2 j p row X I' hj hp hh hrl => lb_write3 X I' j hj hp hh row hrl
  have HK2 : Hid (∀ W bs m' r2, LB w h r W m' r2 bs → W.cell? ⟨r.blk, 2, none⟩ = some (.int .i64 r2.n) ∧ r.blk < W.heap.size) := fun W bs m' r2 X => ⟨X.ls.k2, X.ls.lt⟩
  have HKP := hide K
  have HLL := hide hl
  have hrp : r.ptr = .pointer (some ⟨r.blk, 0, none⟩) := rfl
  rw [hrp] at HGR HRD HWR ⊢
  have hlt := L.rlt r.blk (.inl rfl)
  obtain ⟨b, eb⟩ : ∃ b, b = r.blk := ⟨_, rfl⟩
  rw [← eb] at HGR HRD HWR HK2 hlt ⊢
  obtain ⟨n, en⟩ : ∃ n, n = r.n := ⟨_, rfl⟩
  have HEN := hide en
  rw [← en] at hi hl
  rw [hl] at h64
  clear K hrp eb L I en hl ht
  go_enter Tryz.func78, Tryz.ntmps78
  go_wp2_with fail
  refine (HGR.out _ _ (HX0.out.alloc #[.int .i64 x0, .int .i64 x1, .int .i64 x2] 135)).mono ?_
  rintro e w2 ⟨ok, m1, r2, rfl, hX2, hG, h2n, h2c, h2m⟩
  have HX2 := hide hX2
  have HG := hide hG
  have H2N := hide h2n
  have H2C := hide h2c
  have H2M := hide h2m
  clear hX2 hG h2n h2c h2m
  cases ok
  · have HIN : Hid (Insd h.m m1 3 r.ps r2.ps Ls i t false) := insd_no HKP.out (by rw [HLL.out]; exact HG.out)
    go_wp2_with fail
    go_ret
    exact ⟨false, m1, r2, rfl, HX2.out.ls, HIN.out, H2N.out, H2C.out, H2M.out⟩
  · obtain ⟨k2, hbl⟩ := HK2.out _ _ _ _ HX2.out
    rw [H2N.out, ← HEN.out, if_pos rfl] at k2
    push_cast at k2
    have hni : (n : Int) ≤ 64 := by omega
    have HUP : Hid (ShUp m1 3 r2.ps Ls n) := by
      have G : Grew h.m m1 3 r.ps r2.ps Ls.length true := by rw [HLL.out]; exact HG.out
      have := G.up HKP.out
      rw [HLL.out, ← HEN.out] at this
      exact this
    have hn64 : n < 64 := by
      rw [HEN.out]
      exact (HG.out.yes rfl).1
    go_wp2_with fail
    go_loopw [8] (fun vk wr => ∃ (k : Nat) (m' : HM), i ≤ k ∧ k ≤ n ∧ vk = .int .i64 (k : Int) ∧ LB w h r wr m' r2 [(w.heap.size, #[.int .i64 x0, .int .i64 x1, .int .i64 x2], 135)] ∧ ShUp m' 3 r2.ps Ls k ∧ Fr m1 m' r2.ps r2.ps ∧ m'.calls = m1.calls ∧ m'.failIn = m1.failIn) (fun vk _ => (intOf vk).toNat)
    case atStart => exact ⟨n, m1, hi, Nat.le_refl _, by go_num, HX2.out, HUP.out, .refl _ _, rfl, rfl⟩
    case round =>
      obtain ⟨k, m', hik, hkn, rfl, hX, hS, hF, hcl, hfl⟩ := hrel
      have HX := hide hX
      have HS := hide hS
      have HF := hide hF
      have HCL := hide hcl
      have HFL := hide hfl
      clear hX hS hF hcl hfl
      obtain ⟨p, hp, -, hh⟩ := HS.out.pcs.at (i := k) (by rw [HLL.out, ← HEN.out]; omega)
      have HP := hide hp
      have HH := hide hh
      clear hp hh
      by_cases hlt2 : i < k
      · have hd1 : decide ((i : Int) < (k : Int)) = true := by simp; omega
        have hlt3 : (i : Int) < (k : Int) := by omega
        obtain ⟨k', ek⟩ : ∃ k', k = k' + 1 := ⟨k - 1, by omega⟩
        have hk' : k' < Ls.length := by rw [HLL.out, ← HEN.out]; omega
        obtain ⟨row, hrow⟩ : ∃ row, Ls[k']? = some row := ⟨Ls[k'], List.getElem?_eq_getElem hk'⟩
        have HROW := hide hrow
        have HRI := hide (HS.out.low k' row (by omega) hrow)
        have HRM := hide (List.mem_of_getElem? hrow)
        have hrl : row.length = 3 := HKP.out.wide HRM.out
        have hki : (k : Int) ≤ 64 := by omega
        have HEK := hide ek
        have hk63 : k' < 64 := by omega
        clear hrow hk' ek
        go_wp2_with (first
          | (go_at_call 81; refine (HRD.out _ _ _ _ k' row _ HX.out HS.out.inv hk63 (by have := HEK.out; omega) HRI.out HRM.out).mono ?_; rintro e w3 ⟨rfl, hX3⟩; have HX3 := hide hX3; clear hX3)
          | (go_at_call 80; refine (HWR.out _ _ _ _ k p row HX3.out HS.out.inv (by omega) HP.out HH.out hrl).mono ?_; rintro e w4 ⟨rfl, m4, hX4, hW4⟩; have HX4 := hide hX4; have HW4 := hide hW4; clear hX4 hW4))
        go_roundw
        case rel =>
          have S := HS.out
          have HP2 := HP.out
          have W4 := HW4.out
          have ek := HEK.out
          rw [ek] at S HP2 W4
          obtain ⟨s1, s2⟩ := S.step HROW.out HP2 hrl W4
          exact ⟨k', m4, by omega, by omega, by subst ek; go_num, HX4.out, s1, HF.out.trans s2, W4.calls.trans HCL.out, W4.failIn.trans HFL.out⟩
        case measure => simp [intOf] <;> omega
      · have hd1 : decide ((i : Int) < (k : Int)) = false := by simp; omega
        have hki : k = i := by omega
        have HWT : Hid (Calls Tryz.prog 80 #[.pointer (some ⟨b, 0, none⟩), .int .i64 i, .agg #[.int .i64 x0, .int .i64 x1, .int .i64 x2]] wr fun e W' => e = .returned (.tuple #[]) ∧ ∃ m2, LB w h r W' m2 r2 [(w.heap.size, #[.int .i64 x0, .int .i64 x1, .int .i64 x2], 135)] ∧ Writing m' m2 p (((i % 4 * (8 * 3) : Nat)) : Int) t (8 * t.length)) := by
          have := HWR.out wr _ m' r2 i p t HX.out HS.out.inv (by omega) (by rw [← hki]; exact HP.out) HH.out htl
          rw [HIT.out] at this
          exact this
        have cA0 : wr.cell? ⟨w.heap.size, 0, none⟩ = some (.int .i64 x0) := by rw [HX.out.cell (List.Mem.head _) 0]; rfl
        have cA1 : wr.cell? ⟨w.heap.size, 1, none⟩ = some (.int .i64 x1) := by rw [HX.out.cell (List.Mem.head _) 1]; rfl
        have cA2 : wr.cell? ⟨w.heap.size, 2, none⟩ = some (.int .i64 x2) := by rw [HX.out.cell (List.Mem.head _) 2]; rfl
        have HIN : Hid (∀ m2, Writing m' m2 p (((i % 4 * (8 * 3) : Nat)) : Int) t (8 * t.length) → Insd h.m m2 3 r.ps r2.ps Ls i t true) := fun m2 W2 => by
          have G : Grew h.m m1 3 r.ps r2.ps Ls.length true := by rw [HLL.out]; exact HG.out
          have S := HS.out
          rw [hki] at S
          exact insd_yes G S HF.out HCL.out HFL.out (by rw [HLL.out, ← HEN.out]; exact hi) (by rw [← hki]; exact HP.out) htl W2
        clear hki
        go_wp2_with (go_at_call 80; refine HWT.out.mono ?_; rintro e w4 ⟨rfl, m4, hX4, hW4⟩; have HX4 := hide hX4; have HW4 := hide hW4; clear hX4 hW4)
        go_ret
        exact ⟨true, m4, r2, rfl, HX4.out.ls, HIN.out _ HW4.out, H2N.out, H2C.out, H2M.out⟩
set_option maxHeartbeats 4000000 in
set_option maxRecDepth 100000 in
theorem close3_any {h : Hp} {r : Rw} {w : World} (L : LR w h r) (I : Inv h.m) (hn : r.n ≤ 64) (P : Pcs h.m 3 r.ps r.n) :
    Calls Tryz.prog 86 #[r.ptr] w fun e w' => ∃ (m' : HM) (r2 : Rw), e = .returned (.tuple #[]) ∧ LS w h r w' m' r2 ∧ Clsd h.m m' r.ps ∧ r2.ps = [] ∧ r2.n = 0 ∧ r2.closed = true ∧ r2.more = r.more := by
  have HX0 : Hid (LB w h r w h.m r []) := LB.start L
  have HDR : Hid (∀ W m' k r1, LB w h r W m' r1 [] → Inv m' → r1.n = k + 1 → k < 64 → Pcs m' 3 r1.ps (k + 1) → Calls Tryz.prog 82 #[r.ptr] W fun e W' => e = .returned (.tuple #[]) ∧ ∃ (m2 : HM) (r2 : Rw), LB w h r W' m2 r2 [] ∧ Dropd m' m2 3 r1.ps r2.ps k ∧ r2.n = k ∧ r2.closed = r1.closed ∧ r2.more = r1.more) := fun W m' k r1 X I' hk hk64 P => lb_drop3 X I' k hk hk64 P
  have HK2 : Hid (∀ W m' r1, LB w h r W m' r1 [] → W.cell? ⟨r.blk, 2, none⟩ = some (.int .i64 r1.n) ∧ W.cell? ⟨r.blk, 3, none⟩ = some (.bool r1.closed) ∧ W.frozen? ⟨r.blk, 3, none⟩ = false ∧ r.blk < W.heap.size) := fun W m' r1 X => ⟨X.ls.k2, X.ls.k3, X.ls.free 3, X.ls.lt⟩
  have HSC : Hid (∀ W m' r1, LB w h r W m' r1 [] → LB w h r (W.setCell ⟨r.blk, 3, none⟩ (.bool true)) m' { r1 with closed := true } []) := fun W m' r1 X => X.setC true
  have HI := hide I
  have HP := hide P
  have hrp : r.ptr = .pointer (some ⟨r.blk, 0, none⟩) := rfl
  rw [hrp] at HDR ⊢
  have hlt := L.rlt r.blk (.inl rfl)
  obtain ⟨b, eb⟩ : ∃ b, b = r.blk := ⟨_, rfl⟩
  rw [← eb] at HDR HK2 HSC hlt ⊢
  clear hrp eb L I P
  go_enter Tryz.func86, Tryz.ntmps86
  go_wp2_with fail
  go_loopw [] (fun wr => ∃ (m' : HM) (r1 : Rw), r1.n ≤ 64 ∧ LB w h r wr m' r1 [] ∧ Pcs m' 3 r1.ps r1.n ∧ Inv m' ∧ Fr h.m m' r.ps r1.ps ∧ m'.calls = h.m.calls ∧ m'.failIn = h.m.failIn ∧ r1.more = r.more) (fun wr => (match wr.cell? ⟨b, 2, none⟩ with | some (.int _ z) => z.toNat | _ => 0))
  case atStart => exact ⟨h.m, r, hn, HX0.out, HP.out, HI.out, .refl _ _, rfl, rfl, rfl⟩
  case round =>
    obtain ⟨m', r1, h1n, hX, hP, hI, hF, hcl, hfl, hmo⟩ := hrel
    obtain ⟨k2, k3, f3, hbl⟩ := HK2.out _ _ _ hX
    have HX := hide hX
    have HF := hide hF
    have HCL := hide hcl
    have HFL := hide hfl
    have HMO := hide hmo
    have HIM := hide hI
    obtain ⟨n, en⟩ : ∃ n, n = r1.n := ⟨_, rfl⟩
    rw [← en] at hP k2 h1n
    have HPN := hide hP
    have HEN := hide en
    clear hX hF hcl hfl hmo hI hP
    cases n with
    | zero =>
      have hd1 : decide ((0 : Int) < ((0 : Nat) : Int)) = false := by decide
      obtain ⟨e1, hC⟩ := clsd_of HIM.out HPN.out HF.out HCL.out HFL.out
      have HC := hide hC
      have HS := hide (HSC.out _ _ _ HX.out)
      have HE1 := hide e1
      clear e1 hC en
      go_wp2_with fail
      go_end0
      exact ⟨m', _, rfl, HS.out.ls, HC.out, HE1.out, HEN.out.symm, rfl, HMO.out⟩
    | succ k =>
      have hd1 : decide ((0 : Int) < ((k + 1 : Nat) : Int)) = true := by simp
      have hk64 : k < 64 := by omega
      have hk0 : (0 : Int) < (k : Int) + 1 := by omega
      clear en
      go_wp2_with (go_at_call 82; go_loud (refine (HDR.out _ m' k r1 HX.out HIM.out HEN.out.symm hk64 HPN.out).mono ?_; rintro e w4 ⟨rfl, m4, r4, hX4, hD4, hn4, hc4, hm4⟩; have HX4 := hide hX4; have HD4 := hide hD4; have HN4 := hide hn4; have HM4 := hide hm4; have k42 := (HK2.out _ _ _ hX4).1; clear hX4 hD4 hn4 hc4 hm4))
      go_roundw
      case rel =>
        have D := HD4.out
        exact ⟨m4, r4, by rw [HN4.out]; omega, HX4.out, by rw [HN4.out]; exact D.pcs, D.inv, HF.out.trans D.fr, D.calls.trans HCL.out, D.failIn.trans HFL.out, HM4.out.trans HMO.out⟩
      case measure =>
        rw [k42, k2, HN4.out]
        simp
section
variable {w W : World} {h : Hp} {r r1 : Rw} {m : HM} {bs : List Loc} {Ls : List (List Int)}
theorem lb_insert3 (X : LB w h r W m r1 bs) (I : Inv m) (K : Kp m 3 r1.ps Ls) (hl : Ls.length = r1.n) (hc : m.calls < 1000000000) (hb : BdL Ls) (i : Nat) (hi : i ≤ r1.n) (x0 x1 x2 : Int) :
    Calls Tryz.prog 78 #[r.ptr, .int .i64 i, .agg #[.int .i64 x0, .int .i64 x1, .int .i64 x2]] W fun e W' => ∃ (ok : Bool) (m' : HM) (r2 : Rw), e = .returned (.int .i64 (if ok then 0 else 3)) ∧ LB w h r W' m' r2 bs ∧ Insd m m' 3 r1.ps r2.ps Ls i [x0, x1, x2] ok ∧ r2.n = r1.n + (if ok then 1 else 0) ∧ r2.closed = r1.closed ∧ r2.more = r1.more := by
  have hrb := X.ls.rb
  refine (X.call (P := fun e W' m' r2 => ∃ ok : Bool, e = .returned (.int .i64 (if ok then 0 else 3)) ∧ Insd m m' 3 r1.ps r2.ps Ls i [x0, x1, x2] ok ∧ r2.n = r1.n + (if ok then 1 else 0) ∧ r2.closed = r1.closed ∧ r2.more = r1.more) fun h1 L e1 e2 e3 => ?_).mono ?_
  · have := insert3_any L (by rw [e1]; exact I) (by rw [e1]; exact K) hl (by rw [e3]; exact hc) hb i hi x0 x1 x2
    unfold Rw.ptr at this ⊢
    rw [hrb, e1] at this
    refine this.mono ?_
    rintro e W' ⟨ok, m', r2, he, hX, hG⟩
    exact ⟨m', r2, hX, ok, he, hG⟩
  · rintro e W' ⟨m2, r2, hX, ok, he, hG⟩
    exact ⟨ok, m2, r2, he, hX, hG⟩
theorem lb_close3 (X : LB w h r W m r1 bs) (I : Inv m) (hn : r1.n ≤ 64) (P : Pcs m 3 r1.ps r1.n) :
    Calls Tryz.prog 86 #[r.ptr] W fun e W' => e = .returned (.tuple #[]) ∧ ∃ (m' : HM) (r2 : Rw), LB w h r W' m' r2 bs ∧ Clsd m m' r1.ps ∧ r2.ps = [] ∧ r2.n = 0 ∧ r2.closed = true ∧ r2.more = r1.more := by
  have hrb := X.ls.rb
  refine (X.call (P := fun e W' m' r2 => e = .returned (.tuple #[]) ∧ Clsd m m' r1.ps ∧ r2.ps = [] ∧ r2.n = 0 ∧ r2.closed = true ∧ r2.more = r1.more) fun h1 L e1 e2 e3 => ?_).mono ?_
  · have := close3_any L (by rw [e1]; exact I) hn (by rw [e1]; exact P)
    unfold Rw.ptr at this ⊢
    rw [hrb, e1] at this
    refine this.mono ?_
    rintro e W' ⟨m', r2, he, hX, hG⟩
    exact ⟨m', r2, hX, he, hG⟩
  · rintro e W' ⟨m2, r2, hX, he, hG⟩
    exact ⟨he, m2, r2, hX, hG⟩
end
end Go.Proofs.YtdaklffbfadghaaGreat
