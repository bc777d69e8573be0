/- Rows of 1 numbers: insert, remove, close. Rows of 2 numbers: insert, remove, close. Rows of 3 numbers: insert, remove, close. areNumbers; isOpen; what a list that cannot be used answers. The methods of a list that is open. Add, Remove, Get, Set, All, Close of a list that is open. Set, All, Close of a list that is open. Conditions: as each theorem says. -/
import Derived.Test.YtdaklffbfadghaaGreatTm8
namespace Go.Proofs.YtdaklffbfadghaaGreat
open Go.RowKit HP
set_option linter.unusedVariables false
set_option linter.unusedSimpArgs false
section
variable {w W : World} {h : Hp} {r r1 : Rw} {m : HM} {bs : List Loc}
theorem row1 {row : List Int} (hl : row.length = 1) : ∃ x0, row = [x0] := by
  match row, hl with
  | [x0], _ => exact ⟨x0, rfl⟩
theorem lb_read1 (X : LB w h r W m r1 bs) (I : Inv m) (i : Nat) (hi : i < 64) {row : List Int} (hr : RowIs m 1 r1.ps i row) (hb : ∀ v ∈ row, -9223372036854775808 ≤ v ∧ v ≤ 9223372036854775807) :
    Calls Tryz.prog 91 #[r.ptr, .int .i64 i] W fun e W' => e = .returned (.agg (intsV row).toArray) ∧ LB w h r W' m r1 bs := by
  obtain ⟨x0, rfl⟩ := row1 (row := row) (by obtain ⟨p, -, hl, -⟩ := hr; exact hl)
  have hrb := X.ls.rb
  refine (X.call (P := fun e W' m2 r2 => e = .returned (.agg (intsV [x0]).toArray) ∧ m2 = m ∧ r2 = r1) fun h1 L e1 e2 e3 => ?_).mono ?_
  · have := read1_any L (by rw [e1]; exact I) i hi (by rw [e1]; exact hr) hb
    unfold Rw.ptr at this ⊢
    rw [hrb, e1] at this
    refine this.mono ?_
    rintro e W' ⟨he, hX⟩
    exact ⟨m, r1, hX, he, rfl, rfl⟩
  · rintro e W' ⟨m2, r2, hX, he, rfl, rfl⟩
    exact ⟨he, hX⟩
theorem lb_write1 (X : LB w h r W m r1 bs) (I : Inv m) (i : Nat) (hi : i < 64) {p : Int} (hp : r1.ps[i / 4]? = some p) (hh : Has m p 32) (row : List Int) (hl : row.length = 1) :
    Calls Tryz.prog 92 #[r.ptr, .int .i64 i, .agg (intsV row).toArray] W fun e W' => e = .returned (.tuple #[]) ∧ ∃ m', LB w h r W' m' r1 bs ∧ Writing m m' p (((i % 4 * (8 * 1) : Nat)) : Int) row (8 * row.length) := by
  obtain ⟨x0, rfl⟩ := row1 hl
  have hrb := X.ls.rb
  refine (X.call (P := fun e W' m2 r2 => e = .returned (.tuple #[]) ∧ r2 = r1 ∧ Writing m m2 p (((i % 4 * (8 * 1) : Nat)) : Int) [x0] (8 * 1)) fun h1 L e1 e2 e3 => ?_).mono ?_
  · have := write1_any L (by rw [e1]; exact I) i hi hp (by rw [e1]; exact hh) x0
    unfold Rw.ptr at this ⊢
    rw [hrb, e1] at this
    refine this.mono ?_
    rintro e W' ⟨m', he, hX, hW⟩
    exact ⟨m', r1, hX, he, rfl, hW⟩
  · rintro e W' ⟨m2, r2, hX, he, rfl, hW⟩
    exact ⟨he, m2, hX, hW⟩
theorem lb_grow1 (X : LB w h r W m r1 bs) (I : Inv m) (hn : r1.n ≤ 64) (P : Pcs m 1 r1.ps r1.n) (hc : m.calls < 1000000000) :
    Calls Tryz.prog 109 #[r.ptr] W fun e W' => ∃ (ok : Bool) (m' : HM) (r2 : Rw), e = .returned (.int .i64 (if ok then 0 else 3)) ∧ LB w h r W' m' r2 bs ∧ Grew m m' 1 r1.ps r2.ps r1.n ok ∧ r2.n = r1.n + (if ok then 1 else 0) ∧ r2.closed = r1.closed ∧ r2.more = r1.more := by
  have hrb := X.ls.rb
  refine (X.call (P := fun e W' m' r2 => ∃ ok : Bool, e = .returned (.int .i64 (if ok then 0 else 3)) ∧ Grew m m' 1 r1.ps r2.ps r1.n ok ∧ r2.n = r1.n + (if ok then 1 else 0) ∧ r2.closed = r1.closed ∧ r2.more = r1.more) fun h1 L e1 e2 e3 => ?_).mono ?_
  · have := grow1_any L (by rw [e1]; exact I) hn (by rw [e1]; exact P) (by rw [e3]; exact hc)
    unfold Rw.ptr at this ⊢
    rw [hrb, e1] at this
    refine this.mono ?_
    rintro e W' ⟨ok, m', r2, he, hX, hG⟩
    exact ⟨m', r2, hX, ok, he, hG⟩
  · rintro e W' ⟨m2, r2, hX, ok, he, hG⟩
    exact ⟨ok, m2, r2, he, hX, hG⟩
theorem lb_drop1 (X : LB w h r W m r1 bs) (I : Inv m) (k : Nat) (hk : r1.n = k + 1) (hk64 : k < 64) (P : Pcs m 1 r1.ps (k + 1)) :
    Calls Tryz.prog 102 #[r.ptr] W fun e W' => e = .returned (.tuple #[]) ∧ ∃ (m' : HM) (r2 : Rw), LB w h r W' m' r2 bs ∧ Dropd m m' 1 r1.ps r2.ps k ∧ r2.n = k ∧ r2.closed = r1.closed ∧ r2.more = r1.more := by
  have hrb := X.ls.rb
  refine (X.call (P := fun e W' m' r2 => e = .returned (.tuple #[]) ∧ Dropd m m' 1 r1.ps r2.ps k ∧ r2.n = k ∧ r2.closed = r1.closed ∧ r2.more = r1.more) fun h1 L e1 e2 e3 => ?_).mono ?_
  · have := drop1_any L (by rw [e1]; exact I) k hk hk64 (by rw [e1]; exact P)
    unfold Rw.ptr at this ⊢
    rw [hrb, e1] at this
    refine this.mono ?_
    rintro e W' ⟨m', r2, he, hX, hG⟩
    exact ⟨m', r2, hX, he, hG⟩
  · rintro e W' ⟨m2, r2, hX, he, hG⟩
    exact ⟨he, m2, r2, hX, hG⟩
end
set_option maxHeartbeats 4000000 in
set_option maxRecDepth 100000 in
theorem insert1_any {h : Hp} {r : Rw} {w : World} {Ls : List (List Int)} (L : LR w h r) (I : Inv h.m) (K : Kp h.m 1 r.ps Ls) (hl : Ls.length = r.n) (hc : h.calls < 1000000000) (hb : BdL Ls) (i : Nat) (hi : i ≤ r.n) (x0 : Int) :
    Calls Tryz.prog 90 #[r.ptr, .int .i64 i, .agg #[.int .i64 x0]] w fun e w' => ∃ (ok : Bool) (m' : HM) (r2 : Rw), e = .returned (.int .i64 (if ok then 0 else 3)) ∧ LS w h r w' m' r2 ∧ Insd h.m m' 1 r.ps r2.ps Ls i [x0] ok ∧ r2.n = r.n + (if ok then 1 else 0) ∧ r2.closed = r.closed ∧ r2.more = r.more := by
  have h64 := K.len
  obtain ⟨t, ht⟩ : ∃ t, t = [x0] := ⟨_, rfl⟩
  have htl : t.length = 1 := by rw [ht]; rfl
  have HIT : Hid ((intsV t).toArray = #[.int .i64 x0]) := by rw [ht]; rfl
  rw [← ht]
  have HX0 : Hid (LB w h r w h.m r []) := LB.start L
  have HGR : Hid (∀ W bs, LB w h r W h.m r bs → Calls Tryz.prog 109 #[r.ptr] W fun e W' => ∃ (ok : Bool) (m' : HM) (r2 : Rw), e = .returned (.int .i64 (if ok then 0 else 3)) ∧ LB w h r W' m' r2 bs ∧ Grew h.m m' 1 r.ps r2.ps r.n ok ∧ r2.n = r.n + (if ok then 1 else 0) ∧ r2.closed = r.closed ∧ r2.more = r.more) := fun W bs X => lb_grow1 X I (by omega) (by rw [← hl]; exact K.pcs) hc
  have HRD : Hid (∀ W bs m' r2 (j : Nat) row (a : Int), LB w h r W m' r2 bs → Inv m' → j < 64 → a = (j : Int) → RowIs m' 1 r2.ps j row → row ∈ Ls → Calls Tryz.prog 91 #[r.ptr, .int .i64 a] W fun e W' => e = .returned (.agg (intsV row).toArray) ∧ LB w h r W' m' r2 bs) := fun W bs m' r2 j row a X I' hj ea hr hm => by
    subst ea
    exact lb_read1 X I' j hj hr (hb row hm)
  have HWR : Hid (∀ W bs m' r2 (j : Nat) p row, LB w h r W m' r2 bs → Inv m' → j < 64 → r2.ps[j / 4]? = some p → Has m' p 32 → row.length = 1 → Calls Tryz.prog 92 #[r.ptr, .int .i64 j, .agg (intsV row).toArray] W fun e W' => e = .returned (.tuple #[]) ∧ ∃ m2, LB w h r W' m2 r2 bs ∧ Writing m' m2 p (((j % 4 * (8 * 1) : Nat)) : Int) row (8 * row.length)) := fun W bs m' r2 j p row X I' hj hp hh hrl => lb_write1 X I' j hj hp hh row hrl
  have HK2 : Hid (∀ W bs m' r2, LB w h r W m' r2 bs → W.cell? ⟨r.blk, 2, none⟩ = some (.int .i64 r2.n) ∧ r.blk < W.heap.size) := fun W bs m' r2 X => ⟨X.ls.k2, X.ls.lt⟩
  have HKP := hide K
  have HLL := hide hl
  have hrp : r.ptr = .pointer (some ⟨r.blk, 0, none⟩) := rfl
  rw [hrp] at HGR HRD HWR ⊢
  have hlt := L.rlt r.blk (.inl rfl)
  obtain ⟨b, eb⟩ : ∃ b, b = r.blk := ⟨_, rfl⟩
  rw [← eb] at HGR HRD HWR HK2 hlt ⊢
  obtain ⟨n, en⟩ : ∃ n, n = r.n := ⟨_, rfl⟩
  have HEN := hide en
  rw [← en] at hi hl
  rw [hl] at h64
  clear K hrp eb L I en hl ht
  go_enter Tryz.func90, Tryz.ntmps90
  go_wp2_with fail
  refine (HGR.out _ _ (HX0.out.alloc #[.int .i64 x0] 126)).mono ?_
  rintro e w2 ⟨ok, m1, r2, rfl, hX2, hG, h2n, h2c, h2m⟩
  have HX2 := hide hX2
  have HG := hide hG
  have H2N := hide h2n
  have H2C := hide h2c
  have H2M := hide h2m
  clear hX2 hG h2n h2c h2m
  cases ok
  · have HIN : Hid (Insd h.m m1 1 r.ps r2.ps Ls i t false) := insd_no HKP.out (by rw [HLL.out]; exact HG.out)
    go_wp2_with fail
    go_ret
    exact ⟨false, m1, r2, rfl, HX2.out.ls, HIN.out, H2N.out, H2C.out, H2M.out⟩
  · obtain ⟨k2, hbl⟩ := HK2.out _ _ _ _ HX2.out
    rw [H2N.out, ← HEN.out, if_pos rfl] at k2
    push_cast at k2
    have hni : (n : Int) ≤ 64 := by omega
    have HUP : Hid (ShUp m1 1 r2.ps Ls n) := by
      have G : Grew h.m m1 1 r.ps r2.ps Ls.length true := by rw [HLL.out]; exact HG.out
      have := G.up HKP.out
      rw [HLL.out, ← HEN.out] at this
      exact this
    have hn64 : n < 64 := by
      rw [HEN.out]
      exact (HG.out.yes rfl).1
    go_wp2_with fail
    go_loopw [8] (fun vk wr => ∃ (k : Nat) (m' : HM), i ≤ k ∧ k ≤ n ∧ vk = .int .i64 (k : Int) ∧ LB w h r wr m' r2 [(w.heap.size, #[.int .i64 x0], 126)] ∧ ShUp m' 1 r2.ps Ls k ∧ Fr m1 m' r2.ps r2.ps ∧ m'.calls = m1.calls ∧ m'.failIn = m1.failIn) (fun vk _ => (intOf vk).toNat)
    case atStart => exact ⟨n, m1, hi, Nat.le_refl _, by go_num, HX2.out, HUP.out, .refl _ _, rfl, rfl⟩
    case round =>
      obtain ⟨k, m', hik, hkn, rfl, hX, hS, hF, hcl, hfl⟩ := hrel
      have HX := hide hX
      have HS := hide hS
      have HF := hide hF
      have HCL := hide hcl
      have HFL := hide hfl
      clear hX hS hF hcl hfl
      obtain ⟨p, hp, -, hh⟩ := HS.out.pcs.at (i := k) (by rw [HLL.out, ← HEN.out]; omega)
      have HP := hide hp
      have HH := hide hh
      clear hp hh
      by_cases hlt2 : i < k
      · have hd1 : decide ((i : Int) < (k : Int)) = true := by simp; omega
        have hlt3 : (i : Int) < (k : Int) := by omega
        obtain ⟨k', ek⟩ : ∃ k', k = k' + 1 := ⟨k - 1, by omega⟩
        have hk' : k' < Ls.length := by rw [HLL.out, ← HEN.out]; omega
        obtain ⟨row, hrow⟩ : ∃ row, Ls[k']? = some row := ⟨Ls[k'], List.getElem?_eq_getElem hk'⟩
        have HROW := hide hrow
        have HRI := hide (HS.out.low k' row (by omega) hrow)
        have HRM := hide (List.mem_of_getElem? hrow)
        have hrl : row.length = 1 := HKP.out.wide HRM.out
        have hki : (k : Int) ≤ 64 := by omega
        have HEK := hide ek
        have hk63 : k' < 64 := by omega
        clear hrow hk' ek
        go_wp2_with (first
          | (go_at_call 91; refine (HRD.out _ _ _ _ k' row _ HX.out HS.out.inv hk63 (by have := HEK.out; omega) HRI.out HRM.out).mono ?_; rintro e w3 ⟨rfl, hX3⟩; have HX3 := hide hX3; clear hX3)
          | (go_at_call 92; refine (HWR.out _ _ _ _ k p row HX3.out HS.out.inv (by omega) HP.out HH.out hrl).mono ?_; rintro e w4 ⟨rfl, m4, hX4, hW4⟩; have HX4 := hide hX4; have HW4 := hide hW4; clear hX4 hW4))
        go_roundw
        case rel =>
          have S := HS.out
          have HP2 := HP.out
          have W4 := HW4.out
          have ek := HEK.out
          rw [ek] at S HP2 W4
          obtain ⟨s1, s2⟩ := S.step HROW.out HP2 hrl W4
          exact ⟨k', m4, by omega, by omega, by subst ek; go_num, HX4.out, s1, HF.out.trans s2, W4.calls.trans HCL.out, W4.failIn.trans HFL.out⟩
        case measure => simp [intOf] <;> omega
      · have hd1 : decide ((i : Int) < (k : Int)) = false := by simp; omega
        have hki : k = i := by omega
        have HWT : Hid (Calls Tryz.prog 92 #[.pointer (some ⟨b, 0, none⟩), .int .i64 i, .agg #[.int .i64 x0]] wr fun e W' => e = .returned (.tuple #[]) ∧ ∃ m2, LB w h r W' m2 r2 [(w.heap.size, #[.int .i64 x0], 126)] ∧ Writing m' m2 p (((i % 4 * (8 * 1) : Nat)) : Int) t (8 * t.length)) := by
          have := HWR.out wr _ m' r2 i p t HX.out HS.out.inv (by omega) (by rw [← hki]; exact HP.out) HH.out htl
          rw [HIT.out] at this
          exact this
        have cA0 : wr.cell? ⟨w.heap.size, 0, none⟩ = some (.int .i64 x0) := by rw [HX.out.cell (List.Mem.head _) 0]; rfl
        have HIN : Hid (∀ m2, Writing m' m2 p (((i % 4 * (8 * 1) : Nat)) : Int) t (8 * t.length) → Insd h.m m2 1 r.ps r2.ps Ls i t true) := fun m2 W2 => by
          have G : Grew h.m m1 1 r.ps r2.ps Ls.length true := by rw [HLL.out]; exact HG.out
          have S := HS.out
          rw [hki] at S
          exact insd_yes G S HF.out HCL.out HFL.out (by rw [HLL.out, ← HEN.out]; exact hi) (by rw [← hki]; exact HP.out) htl W2
        clear hki
        go_wp2_with (go_at_call 92; refine HWT.out.mono ?_; rintro e w4 ⟨rfl, m4, hX4, hW4⟩; have HX4 := hide hX4; have HW4 := hide hW4; clear hX4 hW4)
        go_ret
        exact ⟨true, m4, r2, rfl, HX4.out.ls, HIN.out _ HW4.out, H2N.out, H2C.out, H2M.out⟩
set_option maxHeartbeats 4000000 in
set_option maxRecDepth 100000 in
theorem remove1_any {h : Hp} {r : Rw} {w : World} {Ls : List (List Int)} (L : LR w h r) (I : Inv h.m) (K : Kp h.m 1 r.ps Ls) (hl : Ls.length = r.n) (hb : BdL Ls) (i : Nat) {row : List Int} (hrow : Ls[i]? = some row) :
    Calls Tryz.prog 70 #[r.ptr, .int .i64 i] w fun e w' => ∃ (m' : HM) (r2 : Rw), e = .returned (.agg (intsV row).toArray) ∧ LS w h r w' m' r2 ∧ Remd h.m m' 1 r.ps r2.ps Ls i ∧ r2.n + 1 = r.n ∧ r2.closed = r.closed ∧ r2.more = r.more := by
  have h64 := K.len
  have hil := (List.getElem?_eq_some_iff.1 hrow).1
  obtain ⟨x0, erow⟩ := row1 (K.wide (List.mem_of_getElem? hrow))
  have HX0 : Hid (LB w h r w h.m r []) := LB.start L
  have HR1 : Hid (∀ W bs, LB w h r W h.m r bs → Calls Tryz.prog 91 #[r.ptr, .int .i64 i] W fun e W' => e = .returned (.agg #[.int .i64 x0]) ∧ LB w h r W' h.m r bs) := fun W bs X => by
    have := lb_read1 X I i (by omega) (K.row i row hrow) (hb row (List.mem_of_getElem? hrow))
    rw [erow] at this
    exact this
  have HRD : Hid (∀ W bs m' (j : Nat) row (a : Int), LB w h r W m' r bs → Inv m' → j < 64 → a = (j : Int) → RowIs m' 1 r.ps j row → row ∈ Ls → Calls Tryz.prog 91 #[r.ptr, .int .i64 a] W fun e W' => e = .returned (.agg (intsV row).toArray) ∧ LB w h r W' m' r bs) := fun W bs m' j row a X I' hj ea hr hm => by
    subst ea
    exact lb_read1 X I' j hj hr (hb row hm)
  have HWR : Hid (∀ W bs m' (j : Nat) p row, LB w h r W m' r bs → Inv m' → j < 64 → r.ps[j / 4]? = some p → Has m' p 32 → row.length = 1 → Calls Tryz.prog 92 #[r.ptr, .int .i64 j, .agg (intsV row).toArray] W fun e W' => e = .returned (.tuple #[]) ∧ ∃ m2, LB w h r W' m2 r bs ∧ Writing m' m2 p (((j % 4 * (8 * 1) : Nat)) : Int) row (8 * row.length)) := fun W bs m' j p row X I' hj hp hh hrl => lb_write1 X I' j hj hp hh row hrl
  have HDR : Hid (∀ W bs m' k, LB w h r W m' r bs → Inv m' → r.n = k + 1 → k < 64 → Pcs m' 1 r.ps (k + 1) → Calls Tryz.prog 102 #[r.ptr] W fun e W' => e = .returned (.tuple #[]) ∧ ∃ (m2 : HM) (r2 : Rw), LB w h r W' m2 r2 bs ∧ Dropd m' m2 1 r.ps r2.ps k ∧ r2.n = k ∧ r2.closed = r.closed ∧ r2.more = r.more) := fun W bs m' k X I' hk hk64 P => lb_drop1 X I' k hk hk64 P
  have HK2 : Hid (∀ W bs m', LB w h r W m' r bs → W.cell? ⟨r.blk, 2, none⟩ = some (.int .i64 r.n) ∧ r.blk < W.heap.size) := fun W bs m' X => ⟨X.ls.k2, X.ls.lt⟩
  have HKP := hide K
  have HLL := hide hl
  have HST := hide (ShDn.start I K hil)
  have HROW0 := hide erow
  have hrp : r.ptr = .pointer (some ⟨r.blk, 0, none⟩) := rfl
  rw [hrp] at HR1 HRD HWR HDR ⊢
  have hlt := L.rlt r.blk (.inl rfl)
  obtain ⟨b, eb⟩ : ∃ b, b = r.blk := ⟨_, rfl⟩
  rw [← eb] at HR1 HRD HWR HDR HK2 hlt ⊢
  obtain ⟨n, en⟩ : ∃ n, n = r.n := ⟨_, rfl⟩
  have HEN := hide en
  have hin : i < n := by omega
  have hn64 : n ≤ 64 := by omega
  rw [← en] at HK2
  have HIL := hide hil
  clear K hrp eb L I en hl hrow erow h64 hil
  go_enter Tryz.func70, Tryz.ntmps70
  go_wp2_with (go_at_call 91; refine (HR1.out _ _ (HX0.out.alloc #[.int .i64 0] 126)).mono ?_; rintro e w2 ⟨rfl, hX2⟩; have HX2 := hide hX2; have hws := hX2.lt (List.Mem.head _); clear hX2)
  have HX3 := hide (HX2.out.alloc #[.int .i64 x0] 126)
  have hg5 : w.heap.size < w2.heap.size := hws
  obtain ⟨g5, eg5⟩ : ∃ g5, g5 = w2.heap.size := ⟨_, rfl⟩
  rw [← eg5] at HX3 hg5 ⊢
  clear eg5 hws HX2
  go_loopw [6] (fun vk wr => ∃ (k : Nat) (m' : HM), i ≤ k ∧ k < n ∧ vk = .int .i64 (k : Int) ∧ LB w h r wr m' r [(g5, #[.int .i64 x0], 126), (w.heap.size, #[.int .i64 0], 126)] ∧ ShDn m' 1 r.ps Ls i k ∧ Fr h.m m' r.ps r.ps ∧ m'.calls = h.m.calls ∧ m'.failIn = h.m.failIn) (fun vk _ => n - (intOf vk).toNat)
  case atStart => exact ⟨i, h.m, Nat.le_refl _, hin, by go_num, HX3.out, HST.out, .refl _ _, rfl, rfl⟩
  case round =>
    obtain ⟨k, m', hik, hkn, rfl, hX, hS, hF, hcl, hfl⟩ := hrel
    have HX := hide hX
    have HS := hide hS
    have HF := hide hF
    have HCL := hide hcl
    have HFL := hide hfl
    clear hX hS hF hcl hfl
    obtain ⟨k2, hbl⟩ := HK2.out _ _ _ HX.out
    have hni : (n : Int) ≤ 64 := by omega
    have hkni : (k : Int) < (n : Int) := by omega
    by_cases hlt2 : k + 1 < n
    · have hd1 : decide ((k : Int) < (n : Int) - 1) = true := by simp; omega
      obtain ⟨p, hp, -, hh⟩ := HS.out.pcs.at (i := k) (by rw [HLL.out, ← HEN.out]; omega)
      have HP := hide hp
      have HH := hide hh
      obtain ⟨row1, hrow1⟩ : ∃ row1, Ls[k + 1]? = some row1 := ⟨Ls[k + 1]'(by rw [HLL.out, ← HEN.out]; omega), List.getElem?_eq_getElem _⟩
      have HROW := hide hrow1
      have HRI := hide (HS.out.high (k + 1) row1 (by omega) hrow1)
      have HRM := hide (List.mem_of_getElem? hrow1)
      have hrl : row1.length = 1 := HKP.out.wide HRM.out
      have hk63 : k + 1 < 64 := by omega
      clear hrow1 hp hh
      go_wp2_with (first
        | (go_at_call 91; refine (HRD.out _ _ _ (k + 1) row1 _ HX.out HS.out.inv hk63 (by omega) HRI.out HRM.out).mono ?_; rintro e w3 ⟨rfl, hX3⟩; have HX3 := hide hX3; clear hX3)
        | (go_at_call 92; refine (HWR.out _ _ _ k p row1 HX3.out HS.out.inv (by omega) HP.out HH.out hrl).mono ?_; rintro e w4 ⟨rfl, m4, hX4, hW4⟩; have HX4 := hide hX4; have HW4 := hide hW4; clear hX4 hW4))
      go_roundw
      case rel =>
        obtain ⟨s1, s2⟩ := HS.out.step hik HROW.out HP.out hrl HW4.out
        exact ⟨k + 1, m4, by omega, by omega, by go_num, HX4.out, s1, HF.out.trans s2, HW4.out.calls.trans HCL.out, HW4.out.failIn.trans HFL.out⟩
      case measure => simp [intOf] <;> omega
    · have hd1 : decide ((k : Int) < (n : Int) - 1) = false := by simp; omega
      have HNK : Hid (n = k + 1) := by show n = k + 1; omega
      have hk64 : k < 64 := by omega
      go_wp2_with (go_at_call 102; go_loud (refine (HDR.out _ _ _ k HX.out HS.out.inv (by rw [← HEN.out]; exact HNK.out) hk64 (by have := HS.out.pcs; rw [HLL.out, ← HEN.out, HNK.out] at this; exact this)).mono ?_; rintro e w4 ⟨rfl, m4, r4, hX4, hD4, hn4, hc4, hm4⟩; have HX4 := hide hX4; have HD4 := hide hD4; have HN4 := hide hn4; have HC4 := hide hc4; have HM4 := hide hm4; have hmA : ((g5, #[.int .i64 x0], 126) : Loc) ∈ ([(g5, #[.int .i64 x0], 126), (w.heap.size, #[.int .i64 0], 126)] : List Loc) := List.Mem.head _; have hmB : ((w.heap.size, #[.int .i64 0], 126) : Loc) ∈ ([(g5, #[.int .i64 x0], 126), (w.heap.size, #[.int .i64 0], 126)] : List Loc) := List.Mem.tail _ (List.Mem.head _); have cA0 : w4.cell? ⟨g5, 0, none⟩ = some (.int .i64 x0) := (by rw [hX4.cell hmA 0]; rfl); have cB0 : w4.cell? ⟨w.heap.size, 0, none⟩ = some (.int .i64 0) := (by rw [hX4.cell hmB 0]; rfl); have fB0 := hX4.fz hmB 0; clear hX4 hD4 hn4 hc4 hm4 hmA hmB))
      have HE := hide ((HX4.out.put (k := 1) rfl 0 (.int .i64 x0)))
      have HG := HE.out.at_ (List.Mem.tail _ (List.Mem.head _))
      have HREM := hide (remd_of HKP.out HS.out (by rw [HLL.out, ← HEN.out]; exact HNK.out) HIL.out HF.out HCL.out HFL.out HD4.out)
      have HRR : Hid ((.agg (intsV row).toArray : Value) = .agg #[.int .i64 x0]) := by rw [HROW0.out]; rfl
      refine bodyPost_ret (v := .agg #[.int .i64 x0]) (results_row1 rfl _ _ (w.heap.size) _ #[.int .i64 x0] (0, 0) _ rfl HG Tryz.underlying126 rfl (by kernel_rfl)) rfl ⟨m4, r4, by rw [HRR.out], HE.out.ls, HREM.out, ?_, HC4.out, HM4.out⟩
      rw [HN4.out, ← HEN.out]
      exact HNK.out.symm
set_option maxHeartbeats 4000000 in
set_option maxRecDepth 100000 in
theorem close1_any {h : Hp} {r : Rw} {w : World} (L : LR w h r) (I : Inv h.m) (hn : r.n ≤ 64) (P : Pcs h.m 1 r.ps r.n) :
    Calls Tryz.prog 85 #[r.ptr] w fun e w' => ∃ (m' : HM) (r2 : Rw), e = .returned (.tuple #[]) ∧ LS w h r w' m' r2 ∧ Clsd h.m m' r.ps ∧ r2.ps = [] ∧ r2.n = 0 ∧ r2.closed = true ∧ r2.more = r.more := by
  have HX0 : Hid (LB w h r w h.m r []) := LB.start L
  have HDR : Hid (∀ W m' k r1, LB w h r W m' r1 [] → Inv m' → r1.n = k + 1 → k < 64 → Pcs m' 1 r1.ps (k + 1) → Calls Tryz.prog 102 #[r.ptr] W fun e W' => e = .returned (.tuple #[]) ∧ ∃ (m2 : HM) (r2 : Rw), LB w h r W' m2 r2 [] ∧ Dropd m' m2 1 r1.ps r2.ps k ∧ r2.n = k ∧ r2.closed = r1.closed ∧ r2.more = r1.more) := fun W m' k r1 X I' hk hk64 P => lb_drop1 X I' k hk hk64 P
  have HK2 : Hid (∀ W m' r1, LB w h r W m' r1 [] → W.cell? ⟨r.blk, 2, none⟩ = some (.int .i64 r1.n) ∧ W.cell? ⟨r.blk, 3, none⟩ = some (.bool r1.closed) ∧ W.frozen? ⟨r.blk, 3, none⟩ = false ∧ r.blk < W.heap.size) := fun W m' r1 X => ⟨X.ls.k2, X.ls.k3, X.ls.free 3, X.ls.lt⟩
  have HSC : Hid (∀ W m' r1, LB w h r W m' r1 [] → LB w h r (W.setCell ⟨r.blk, 3, none⟩ (.bool true)) m' { r1 with closed := true } []) := fun W m' r1 X => X.setC true
  have HI := hide I
  have HP := hide P
  have hrp : r.ptr = .pointer (some ⟨r.blk, 0, none⟩) := rfl
  rw [hrp] at HDR ⊢
  have hlt := L.rlt r.blk (.inl rfl)
  obtain ⟨b, eb⟩ : ∃ b, b = r.blk := ⟨_, rfl⟩
  rw [← eb] at HDR HK2 HSC hlt ⊢
  clear hrp eb L I P
  go_enter Tryz.func85, Tryz.ntmps85
  go_wp2_with fail
  go_loopw [] (fun wr => ∃ (m' : HM) (r1 : Rw), r1.n ≤ 64 ∧ LB w h r wr m' r1 [] ∧ Pcs m' 1 r1.ps r1.n ∧ Inv m' ∧ Fr h.m m' r.ps r1.ps ∧ m'.calls = h.m.calls ∧ m'.failIn = h.m.failIn ∧ r1.more = r.more) (fun wr => (match wr.cell? ⟨b, 2, none⟩ with | some (.int _ z) => z.toNat | _ => 0))
  case atStart => exact ⟨h.m, r, hn, HX0.out, HP.out, HI.out, .refl _ _, rfl, rfl, rfl⟩
  case round =>
    obtain ⟨m', r1, h1n, hX, hP, hI, hF, hcl, hfl, hmo⟩ := hrel
    obtain ⟨k2, k3, f3, hbl⟩ := HK2.out _ _ _ hX
    have HX := hide hX
    have HF := hide hF
    have HCL := hide hcl
    have HFL := hide hfl
    have HMO := hide hmo
    have HIM := hide hI
    obtain ⟨n, en⟩ : ∃ n, n = r1.n := ⟨_, rfl⟩
    rw [← en] at hP k2 h1n
    have HPN := hide hP
    have HEN := hide en
    clear hX hF hcl hfl hmo hI hP
    cases n with
    | zero =>
      have hd1 : decide ((0 : Int) < ((0 : Nat) : Int)) = false := by decide
      obtain ⟨e1, hC⟩ := clsd_of HIM.out HPN.out HF.out HCL.out HFL.out
      have HC := hide hC
      have HS := hide (HSC.out _ _ _ HX.out)
      have HE1 := hide e1
      clear e1 hC en
      go_wp2_with fail
      go_end0
      exact ⟨m', _, rfl, HS.out.ls, HC.out, HE1.out, HEN.out.symm, rfl, HMO.out⟩
    | succ k =>
      have hd1 : decide ((0 : Int) < ((k + 1 : Nat) : Int)) = true := by simp
      have hk64 : k < 64 := by omega
      have hk0 : (0 : Int) < (k : Int) + 1 := by omega
      clear en
      go_wp2_with (go_at_call 102; go_loud (refine (HDR.out _ m' k r1 HX.out HIM.out HEN.out.symm hk64 HPN.out).mono ?_; rintro e w4 ⟨rfl, m4, r4, hX4, hD4, hn4, hc4, hm4⟩; have HX4 := hide hX4; have HD4 := hide hD4; have HN4 := hide hn4; have HM4 := hide hm4; have k42 := (HK2.out _ _ _ hX4).1; clear hX4 hD4 hn4 hc4 hm4))
      go_roundw
      case rel =>
        have D := HD4.out
        exact ⟨m4, r4, by rw [HN4.out]; omega, HX4.out, by rw [HN4.out]; exact D.pcs, D.inv, HF.out.trans D.fr, D.calls.trans HCL.out, D.failIn.trans HFL.out, HM4.out.trans HMO.out⟩
      case measure =>
        rw [k42, k2, HN4.out]
        simp
section
variable {w W : World} {h : Hp} {r r1 : Rw} {m : HM} {bs : List Loc} {Ls : List (List Int)}
theorem lb_insert1 (X : LB w h r W m r1 bs) (I : Inv m) (K : Kp m 1 r1.ps Ls) (hl : Ls.length = r1.n) (hc : m.calls < 1000000000) (hb : BdL Ls) (i : Nat) (hi : i ≤ r1.n) (x0 : Int) :
    Calls Tryz.prog 90 #[r.ptr, .int .i64 i, .agg #[.int .i64 x0]] W fun e W' => ∃ (ok : Bool) (m' : HM) (r2 : Rw), e = .returned (.int .i64 (if ok then 0 else 3)) ∧ LB w h r W' m' r2 bs ∧ Insd m m' 1 r1.ps r2.ps Ls i [x0] ok ∧ r2.n = r1.n + (if ok then 1 else 0) ∧ r2.closed = r1.closed ∧ r2.more = r1.more := by
  have hrb := X.ls.rb
  refine (X.call (P := fun e W' m' r2 => ∃ ok : Bool, e = .returned (.int .i64 (if ok then 0 else 3)) ∧ Insd m m' 1 r1.ps r2.ps Ls i [x0] ok ∧ r2.n = r1.n + (if ok then 1 else 0) ∧ r2.closed = r1.closed ∧ r2.more = r1.more) fun h1 L e1 e2 e3 => ?_).mono ?_
  · have := insert1_any L (by rw [e1]; exact I) (by rw [e1]; exact K) hl (by rw [e3]; exact hc) hb i hi x0
    unfold Rw.ptr at this ⊢
    rw [hrb, e1] at this
    refine this.mono ?_
    rintro e W' ⟨ok, m', r2, he, hX, hG⟩
    exact ⟨m', r2, hX, ok, he, hG⟩
  · rintro e W' ⟨m2, r2, hX, ok, he, hG⟩
    exact ⟨ok, m2, r2, he, hX, hG⟩
theorem lb_remove1 (X : LB w h r W m r1 bs) (I : Inv m) (K : Kp m 1 r1.ps Ls) (hl : Ls.length = r1.n) (hb : BdL Ls) (i : Nat) {row : List Int} (hrow : Ls[i]? = some row) :
    Calls Tryz.prog 70 #[r.ptr, .int .i64 i] W fun e W' => e = .returned (.agg (intsV row).toArray) ∧ ∃ (m' : HM) (r2 : Rw), LB w h r W' m' r2 bs ∧ Remd m m' 1 r1.ps r2.ps Ls i ∧ r2.n + 1 = r1.n ∧ r2.closed = r1.closed ∧ r2.more = r1.more := by
  have hrb := X.ls.rb
  refine (X.call (P := fun e W' m' r2 => e = .returned (.agg (intsV row).toArray) ∧ Remd m m' 1 r1.ps r2.ps Ls i ∧ r2.n + 1 = r1.n ∧ r2.closed = r1.closed ∧ r2.more = r1.more) fun h1 L e1 e2 e3 => ?_).mono ?_
  · have := remove1_any L (by rw [e1]; exact I) (by rw [e1]; exact K) hl hb i hrow
    unfold Rw.ptr at this ⊢
    rw [hrb, e1] at this
    refine this.mono ?_
    rintro e W' ⟨m', r2, he, hX, hG⟩
    exact ⟨m', r2, hX, he, hG⟩
  · rintro e W' ⟨m2, r2, hX, he, hG⟩
    exact ⟨he, m2, r2, hX, hG⟩
theorem lb_close1 (X : LB w h r W m r1 bs) (I : Inv m) (hn : r1.n ≤ 64) (P : Pcs m 1 r1.ps r1.n) :
    Calls Tryz.prog 85 #[r.ptr] W fun e W' => e = .returned (.tuple #[]) ∧ ∃ (m' : HM) (r2 : Rw), LB w h r W' m' r2 bs ∧ Clsd m m' r1.ps ∧ r2.ps = [] ∧ r2.n = 0 ∧ r2.closed = true ∧ r2.more = r1.more := by
  have hrb := X.ls.rb
  refine (X.call (P := fun e W' m' r2 => e = .returned (.tuple #[]) ∧ Clsd m m' r1.ps ∧ r2.ps = [] ∧ r2.n = 0 ∧ r2.closed = true ∧ r2.more = r1.more) fun h1 L e1 e2 e3 => ?_).mono ?_
  · have := close1_any L (by rw [e1]; exact I) hn (by rw [e1]; exact P)
    unfold Rw.ptr at this ⊢
    rw [hrb, e1] at this
    refine this.mono ?_
    rintro e W' ⟨m', r2, he, hX, hG⟩
    exact ⟨m', r2, hX, he, hG⟩
  · rintro e W' ⟨m2, r2, hX, he, hG⟩
    exact ⟨he, m2, r2, hX, hG⟩
end
end Go.Proofs.YtdaklffbfadghaaGreat

namespace Go.Proofs.YtdaklffbfadghaaGreat
open Go.RowKit HP
set_option linter.unusedVariables false
set_option linter.unusedSimpArgs false
section
variable {w W : World} {h : Hp} {r r1 : Rw} {m : HM} {bs : List Loc}
theorem row2 {row : List Int} (hl : row.length = 2) : ∃ x0 x1, row = [x0, x1] := by
  match row, hl with
  | [x0, x1], _ => exact ⟨x0, x1, rfl⟩
theorem lb_read2 (X : LB w h r W m r1 bs) (I : Inv m) (i : Nat) (hi : i < 64) {row : List Int} (hr : RowIs m 2 r1.ps i row) (hb : ∀ v ∈ row, -9223372036854775808 ≤ v ∧ v ≤ 9223372036854775807) :
    Calls Tryz.prog 72 #[r.ptr, .int .i64 i] W fun e W' => e = .returned (.agg (intsV row).toArray) ∧ LB w h r W' m r1 bs := by
  obtain ⟨x0, x1, rfl⟩ := row2 (row := row) (by obtain ⟨p, -, hl, -⟩ := hr; exact hl)
  have hrb := X.ls.rb
  refine (X.call (P := fun e W' m2 r2 => e = .returned (.agg (intsV [x0, x1]).toArray) ∧ m2 = m ∧ r2 = r1) fun h1 L e1 e2 e3 => ?_).mono ?_
  · have := read2_any L (by rw [e1]; exact I) i hi (by rw [e1]; exact hr) hb
    unfold Rw.ptr at this ⊢
    rw [hrb, e1] at this
    refine this.mono ?_
    rintro e W' ⟨he, hX⟩
    exact ⟨m, r1, hX, he, rfl, rfl⟩
  · rintro e W' ⟨m2, r2, hX, he, rfl, rfl⟩
    exact ⟨he, hX⟩
theorem lb_write2 (X : LB w h r W m r1 bs) (I : Inv m) (i : Nat) (hi : i < 64) {p : Int} (hp : r1.ps[i / 4]? = some p) (hh : Has m p 64) (row : List Int) (hl : row.length = 2) :
    Calls Tryz.prog 73 #[r.ptr, .int .i64 i, .agg (intsV row).toArray] W fun e W' => e = .returned (.tuple #[]) ∧ ∃ m', LB w h r W' m' r1 bs ∧ Writing m m' p (((i % 4 * (8 * 2) : Nat)) : Int) row (8 * row.length) := by
  obtain ⟨x0, x1, rfl⟩ := row2 hl
  have hrb := X.ls.rb
  refine (X.call (P := fun e W' m2 r2 => e = .returned (.tuple #[]) ∧ r2 = r1 ∧ Writing m m2 p (((i % 4 * (8 * 2) : Nat)) : Int) [x0, x1] (8 * 2)) fun h1 L e1 e2 e3 => ?_).mono ?_
  · have := write2_any L (by rw [e1]; exact I) i hi hp (by rw [e1]; exact hh) x0 x1
    unfold Rw.ptr at this ⊢
    rw [hrb, e1] at this
    refine this.mono ?_
    rintro e W' ⟨m', he, hX, hW⟩
    exact ⟨m', r1, hX, he, rfl, hW⟩
  · rintro e W' ⟨m2, r2, hX, he, rfl, hW⟩
    exact ⟨he, m2, hX, hW⟩
theorem lb_grow2 (X : LB w h r W m r1 bs) (I : Inv m) (hn : r1.n ≤ 64) (P : Pcs m 2 r1.ps r1.n) (hc : m.calls < 1000000000) :
    Calls Tryz.prog 104 #[r.ptr] W fun e W' => ∃ (ok : Bool) (m' : HM) (r2 : Rw), e = .returned (.int .i64 (if ok then 0 else 3)) ∧ LB w h r W' m' r2 bs ∧ Grew m m' 2 r1.ps r2.ps r1.n ok ∧ r2.n = r1.n + (if ok then 1 else 0) ∧ r2.closed = r1.closed ∧ r2.more = r1.more := by
  have hrb := X.ls.rb
  refine (X.call (P := fun e W' m' r2 => ∃ ok : Bool, e = .returned (.int .i64 (if ok then 0 else 3)) ∧ Grew m m' 2 r1.ps r2.ps r1.n ok ∧ r2.n = r1.n + (if ok then 1 else 0) ∧ r2.closed = r1.closed ∧ r2.more = r1.more) fun h1 L e1 e2 e3 => ?_).mono ?_
  · have := grow2_any L (by rw [e1]; exact I) hn (by rw [e1]; exact P) (by rw [e3]; exact hc)
    unfold Rw.ptr at this ⊢
    rw [hrb, e1] at this
    refine this.mono ?_
    rintro e W' ⟨ok, m', r2, he, hX, hG⟩
    exact ⟨m', r2, hX, ok, he, hG⟩
  · rintro e W' ⟨m2, r2, hX, ok, he, hG⟩
    exact ⟨ok, m2, r2, he, hX, hG⟩
theorem lb_drop2 (X : LB w h r W m r1 bs) (I : Inv m) (k : Nat) (hk : r1.n = k + 1) (hk64 : k < 64) (P : Pcs m 2 r1.ps (k + 1)) :
    Calls Tryz.prog 105 #[r.ptr] W fun e W' => e = .returned (.tuple #[]) ∧ ∃ (m' : HM) (r2 : Rw), LB w h r W' m' r2 bs ∧ Dropd m m' 2 r1.ps r2.ps k ∧ r2.n = k ∧ r2.closed = r1.closed ∧ r2.more = r1.more := by
  have hrb := X.ls.rb
  refine (X.call (P := fun e W' m' r2 => e = .returned (.tuple #[]) ∧ Dropd m m' 2 r1.ps r2.ps k ∧ r2.n = k ∧ r2.closed = r1.closed ∧ r2.more = r1.more) fun h1 L e1 e2 e3 => ?_).mono ?_
  · have := drop2_any L (by rw [e1]; exact I) k hk hk64 (by rw [e1]; exact P)
    unfold Rw.ptr at this ⊢
    rw [hrb, e1] at this
    refine this.mono ?_
    rintro e W' ⟨m', r2, he, hX, hG⟩
    exact ⟨m', r2, hX, he, hG⟩
  · rintro e W' ⟨m2, r2, hX, he, hG⟩
    exact ⟨he, m2, r2, hX, hG⟩
end
set_option maxHeartbeats 4000000 in
set_option maxRecDepth 100000 in
theorem insert2_any {h : Hp} {r : Rw} {w : World} {Ls : List (List Int)} (L : LR w h r) (I : Inv h.m) (K : Kp h.m 2 r.ps Ls) (hl : Ls.length = r.n) (hc : h.calls < 1000000000) (hb : BdL Ls) (i : Nat) (hi : i ≤ r.n) (x0 x1 : Int) :
    Calls Tryz.prog 74 #[r.ptr, .int .i64 i, .agg #[.int .i64 x0, .int .i64 x1]] w fun e w' => ∃ (ok : Bool) (m' : HM) (r2 : Rw), e = .returned (.int .i64 (if ok then 0 else 3)) ∧ LS w h r w' m' r2 ∧ Insd h.m m' 2 r.ps r2.ps Ls i [x0, x1] ok ∧ r2.n = r.n + (if ok then 1 else 0) ∧ r2.closed = r.closed ∧ r2.more = r.more := by
  have h64 := K.len
  obtain ⟨t, ht⟩ : ∃ t, t = [x0, x1] := ⟨_, rfl⟩
  have htl : t.length = 2 := by rw [ht]; rfl
  have HIT : Hid ((intsV t).toArray = #[.int .i64 x0, .int .i64 x1]) := by rw [ht]; rfl
  rw [← ht]
  have HX0 : Hid (LB w h r w h.m r []) := LB.start L
  have HGR : Hid (∀ W bs, LB w h r W h.m r bs → Calls Tryz.prog 104 #[r.ptr] W fun e W' => ∃ (ok : Bool) (m' : HM) (r2 : Rw), e = .returned (.int .i64 (if ok then 0 else 3)) ∧ LB w h r W' m' r2 bs ∧ Grew h.m m' 2 r.ps r2.ps r.n ok ∧ r2.n = r.n + (if ok then 1 else 0) ∧ r2.closed = r.closed ∧ r2.more = r.more) := fun W bs X => lb_grow2 X I (by omega) (by rw [← hl]; exact K.pcs) hc
  have HRD : Hid (∀ W bs m' r2 (j : Nat) row (a : Int), LB w h r W m' r2 bs → Inv m' → j < 64 → a = (j : Int) → RowIs m' 2 r2.ps j row → row ∈ Ls → Calls Tryz.prog 72 #[r.ptr, .int .i64 a] W fun e W' => e = .returned (.agg (intsV row).toArray) ∧ LB w h r W' m' r2 bs) := fun W bs m' r2 j row a X I' hj ea hr hm => by
    subst ea
    exact lb_read2 X I' j hj hr (hb row hm)
  have HWR : Hid (∀ W bs m' r2 (j : Nat) p row, LB w h r W m' r2 bs → Inv m' → j < 64 → r2.ps[j / 4]? = some p → Has m' p 64 → row.length = 2 → Calls Tryz.prog 73 #[r.ptr, .int .i64 j, .agg (intsV row).toArray] W fun e W' => e = .returned (.tuple #[]) ∧ ∃ m2, LB w h r W' m2 r2 bs ∧ Writing m' m2 p (((j % 4 * (8 * 2) : Nat)) : Int) row (8 * row.length)) := fun W bs m' r2 j p row X I' hj hp hh hrl => lb_write2 X I' j hj hp hh row hrl
  have HK2 : Hid (∀ W bs m' r2, LB w h r W m' r2 bs → W.cell? ⟨r.blk, 2, none⟩ = some (.int .i64 r2.n) ∧ r.blk < W.heap.size) := fun W bs m' r2 X => ⟨X.ls.k2, X.ls.lt⟩
  have HKP := hide K
  have HLL := hide hl
  have hrp : r.ptr = .pointer (some ⟨r.blk, 0, none⟩) := rfl
  rw [hrp] at HGR HRD HWR ⊢
  have hlt := L.rlt r.blk (.inl rfl)
  obtain ⟨b, eb⟩ : ∃ b, b = r.blk := ⟨_, rfl⟩
  rw [← eb] at HGR HRD HWR HK2 hlt ⊢
  obtain ⟨n, en⟩ : ∃ n, n = r.n := ⟨_, rfl⟩
  have HEN := hide en
  rw [← en] at hi hl
  rw [hl] at h64
  clear K hrp eb L I en hl ht
  go_enter Tryz.func74, Tryz.ntmps74
  go_wp2_with fail
  refine (HGR.out _ _ (HX0.out.alloc #[.int .i64 x0, .int .i64 x1] 64)).mono ?_
  rintro e w2 ⟨ok, m1, r2, rfl, hX2, hG, h2n, h2c, h2m⟩
  have HX2 := hide hX2
  have HG := hide hG
  have H2N := hide h2n
  have H2C := hide h2c
  have H2M := hide h2m
  clear hX2 hG h2n h2c h2m
  cases ok
  · have HIN : Hid (Insd h.m m1 2 r.ps r2.ps Ls i t false) := insd_no HKP.out (by rw [HLL.out]; exact HG.out)
    go_wp2_with fail
    go_ret
    exact ⟨false, m1, r2, rfl, HX2.out.ls, HIN.out, H2N.out, H2C.out, H2M.out⟩
  · obtain ⟨k2, hbl⟩ := HK2.out _ _ _ _ HX2.out
    rw [H2N.out, ← HEN.out, if_pos rfl] at k2
    push_cast at k2
    have hni : (n : Int) ≤ 64 := by omega
    have HUP : Hid (ShUp m1 2 r2.ps Ls n) := by
      have G : Grew h.m m1 2 r.ps r2.ps Ls.length true := by rw [HLL.out]; exact HG.out
      have := G.up HKP.out
      rw [HLL.out, ← HEN.out] at this
      exact this
    have hn64 : n < 64 := by
      rw [HEN.out]
      exact (HG.out.yes rfl).1
    go_wp2_with fail
    go_loopw [8] (fun vk wr => ∃ (k : Nat) (m' : HM), i ≤ k ∧ k ≤ n ∧ vk = .int .i64 (k : Int) ∧ LB w h r wr m' r2 [(w.heap.size, #[.int .i64 x0, .int .i64 x1], 64)] ∧ ShUp m' 2 r2.ps Ls k ∧ Fr m1 m' r2.ps r2.ps ∧ m'.calls = m1.calls ∧ m'.failIn = m1.failIn) (fun vk _ => (intOf vk).toNat)
    case atStart => exact ⟨n, m1, hi, Nat.le_refl _, by go_num, HX2.out, HUP.out, .refl _ _, rfl, rfl⟩
    case round =>
      obtain ⟨k, m', hik, hkn, rfl, hX, hS, hF, hcl, hfl⟩ := hrel
      have HX := hide hX
      have HS := hide hS
      have HF := hide hF
      have HCL := hide hcl
      have HFL := hide hfl
      clear hX hS hF hcl hfl
      obtain ⟨p, hp, -, hh⟩ := HS.out.pcs.at (i := k) (by rw [HLL.out, ← HEN.out]; omega)
      have HP := hide hp
      have HH := hide hh
      clear hp hh
      by_cases hlt2 : i < k
      · have hd1 : decide ((i : Int) < (k : Int)) = true := by simp; omega
        have hlt3 : (i : Int) < (k : Int) := by omega
        obtain ⟨k', ek⟩ : ∃ k', k = k' + 1 := ⟨k - 1, by omega⟩
        have hk' : k' < Ls.length := by rw [HLL.out, ← HEN.out]; omega
        obtain ⟨row, hrow⟩ : ∃ row, Ls[k']? = some row := ⟨Ls[k'], List.getElem?_eq_getElem hk'⟩
        have HROW := hide hrow
        have HRI := hide (HS.out.low k' row (by omega) hrow)
        have HRM := hide (List.mem_of_getElem? hrow)
        have hrl : row.length = 2 := HKP.out.wide HRM.out
        have hki : (k : Int) ≤ 64 := by omega
        have HEK := hide ek
        have hk63 : k' < 64 := by omega
        clear hrow hk' ek
        go_wp2_with (first
          | (go_at_call 72; refine (HRD.out _ _ _ _ k' row _ HX.out HS.out.inv hk63 (by have := HEK.out; omega) HRI.out HRM.out).mono ?_; rintro e w3 ⟨rfl, hX3⟩; have HX3 := hide hX3; clear hX3)
          | (go_at_call 73; refine (HWR.out _ _ _ _ k p row HX3.out HS.out.inv (by omega) HP.out HH.out hrl).mono ?_; rintro e w4 ⟨rfl, m4, hX4, hW4⟩; have HX4 := hide hX4; have HW4 := hide hW4; clear hX4 hW4))
        go_roundw
        case rel =>
          have S := HS.out
          have HP2 := HP.out
          have W4 := HW4.out
          have ek := HEK.out
          rw [ek] at S HP2 W4
          obtain ⟨s1, s2⟩ := S.step HROW.out HP2 hrl W4
          exact ⟨k', m4, by omega, by omega, by subst ek; go_num, HX4.out, s1, HF.out.trans s2, W4.calls.trans HCL.out, W4.failIn.trans HFL.out⟩
        case measure => simp [intOf] <;> omega
      · have hd1 : decide ((i : Int) < (k : Int)) = false := by simp; omega
        have hki : k = i := by omega
        have HWT : Hid (Calls Tryz.prog 73 #[.pointer (some ⟨b, 0, none⟩), .int .i64 i, .agg #[.int .i64 x0, .int .i64 x1]] wr fun e W' => e = .returned (.tuple #[]) ∧ ∃ m2, LB w h r W' m2 r2 [(w.heap.size, #[.int .i64 x0, .int .i64 x1], 64)] ∧ Writing m' m2 p (((i % 4 * (8 * 2) : Nat)) : Int) t (8 * t.length)) := by
          have := HWR.out wr _ m' r2 i p t HX.out HS.out.inv (by omega) (by rw [← hki]; exact HP.out) HH.out htl
          rw [HIT.out] at this
          exact this
        have cA0 : wr.cell? ⟨w.heap.size, 0, none⟩ = some (.int .i64 x0) := by rw [HX.out.cell (List.Mem.head _) 0]; rfl
        have cA1 : wr.cell? ⟨w.heap.size, 1, none⟩ = some (.int .i64 x1) := by rw [HX.out.cell (List.Mem.head _) 1]; rfl
        have HIN : Hid (∀ m2, Writing m' m2 p (((i % 4 * (8 * 2) : Nat)) : Int) t (8 * t.length) → Insd h.m m2 2 r.ps r2.ps Ls i t true) := fun m2 W2 => by
          have G : Grew h.m m1 2 r.ps r2.ps Ls.length true := by rw [HLL.out]; exact HG.out
          have S := HS.out
          rw [hki] at S
          exact insd_yes G S HF.out HCL.out HFL.out (by rw [HLL.out, ← HEN.out]; exact hi) (by rw [← hki]; exact HP.out) htl W2
        clear hki
        go_wp2_with (go_at_call 73; refine HWT.out.mono ?_; rintro e w4 ⟨rfl, m4, hX4, hW4⟩; have HX4 := hide hX4; have HW4 := hide hW4; clear hX4 hW4)
        go_ret
        exact ⟨true, m4, r2, rfl, HX4.out.ls, HIN.out _ HW4.out, H2N.out, H2C.out, H2M.out⟩
set_option maxHeartbeats 4000000 in
set_option maxRecDepth 100000 in
theorem remove2_any {h : Hp} {r : Rw} {w : World} {Ls : List (List Int)} (L : LR w h r) (I : Inv h.m) (K : Kp h.m 2 r.ps Ls) (hl : Ls.length = r.n) (hb : BdL Ls) (i : Nat) {row : List Int} (hrow : Ls[i]? = some row) :
    Calls Tryz.prog 76 #[r.ptr, .int .i64 i] w fun e w' => ∃ (m' : HM) (r2 : Rw), e = .returned (.agg (intsV row).toArray) ∧ LS w h r w' m' r2 ∧ Remd h.m m' 2 r.ps r2.ps Ls i ∧ r2.n + 1 = r.n ∧ r2.closed = r.closed ∧ r2.more = r.more := by
  have h64 := K.len
  have hil := (List.getElem?_eq_some_iff.1 hrow).1
  obtain ⟨x0, x1, erow⟩ := row2 (K.wide (List.mem_of_getElem? hrow))
  have HX0 : Hid (LB w h r w h.m r []) := LB.start L
  have HR1 : Hid (∀ W bs, LB w h r W h.m r bs → Calls Tryz.prog 72 #[r.ptr, .int .i64 i] W fun e W' => e = .returned (.agg #[.int .i64 x0, .int .i64 x1]) ∧ LB w h r W' h.m r bs) := fun W bs X => by
    have := lb_read2 X I i (by omega) (K.row i row hrow) (hb row (List.mem_of_getElem? hrow))
    rw [erow] at this
    exact this
  have HRD : Hid (∀ W bs m' (j : Nat) row (a : Int), LB w h r W m' r bs → Inv m' → j < 64 → a = (j : Int) → RowIs m' 2 r.ps j row → row ∈ Ls → Calls Tryz.prog 72 #[r.ptr, .int .i64 a] W fun e W' => e = .returned (.agg (intsV row).toArray) ∧ LB w h r W' m' r bs) := fun W bs m' j row a X I' hj ea hr hm => by
    subst ea
    exact lb_read2 X I' j hj hr (hb row hm)
  have HWR : Hid (∀ W bs m' (j : Nat) p row, LB w h r W m' r bs → Inv m' → j < 64 → r.ps[j / 4]? = some p → Has m' p 64 → row.length = 2 → Calls Tryz.prog 73 #[r.ptr, .int .i64 j, .agg (intsV row).toArray] W fun e W' => e = .returned (.tuple #[]) ∧ ∃ m2, LB w h r W' m2 r bs ∧ Writing m' m2 p (((j % 4 * (8 * 2) : Nat)) : Int) row (8 * row.length)) := fun W bs m' j p row X I' hj hp hh hrl => lb_write2 X I' j hj hp hh row hrl
  have HDR : Hid (∀ W bs m' k, LB w h r W m' r bs → Inv m' → r.n = k + 1 → k < 64 → Pcs m' 2 r.ps (k + 1) → Calls Tryz.prog 105 #[r.ptr] W fun e W' => e = .returned (.tuple #[]) ∧ ∃ (m2 : HM) (r2 : Rw), LB w h r W' m2 r2 bs ∧ Dropd m' m2 2 r.ps r2.ps k ∧ r2.n = k ∧ r2.closed = r.closed ∧ r2.more = r.more) := fun W bs m' k X I' hk hk64 P => lb_drop2 X I' k hk hk64 P
  have HK2 : Hid (∀ W bs m', LB w h r W m' r bs → W.cell? ⟨r.blk, 2, none⟩ = some (.int .i64 r.n) ∧ r.blk < W.heap.size) := fun W bs m' X => ⟨X.ls.k2, X.ls.lt⟩
  have HKP := hide K
  have HLL := hide hl
  have HST := hide (ShDn.start I K hil)
  have HROW0 := hide erow
  have hrp : r.ptr = .pointer (some ⟨r.blk, 0, none⟩) := rfl
  rw [hrp] at HR1 HRD HWR HDR ⊢
  have hlt := L.rlt r.blk (.inl rfl)
  obtain ⟨b, eb⟩ : ∃ b, b = r.blk := ⟨_, rfl⟩
  rw [← eb] at HR1 HRD HWR HDR HK2 hlt ⊢
  obtain ⟨n, en⟩ : ∃ n, n = r.n := ⟨_, rfl⟩
  have HEN := hide en
  have hin : i < n := by omega
  have hn64 : n ≤ 64 := by omega
  rw [← en] at HK2
  have HIL := hide hil
  clear K hrp eb L I en hl hrow erow h64 hil
  go_enter Tryz.func76, Tryz.ntmps76
  go_wp2_with (go_at_call 72; refine (HR1.out _ _ (HX0.out.alloc #[.int .i64 0, .int .i64 0] 64)).mono ?_; rintro e w2 ⟨rfl, hX2⟩; have HX2 := hide hX2; have hws := hX2.lt (List.Mem.head _); clear hX2)
  have HX3 := hide (HX2.out.alloc #[.int .i64 x0, .int .i64 x1] 64)
  have hg5 : w.heap.size < w2.heap.size := hws
  obtain ⟨g5, eg5⟩ : ∃ g5, g5 = w2.heap.size := ⟨_, rfl⟩
  rw [← eg5] at HX3 hg5 ⊢
  clear eg5 hws HX2
  go_loopw [6] (fun vk wr => ∃ (k : Nat) (m' : HM), i ≤ k ∧ k < n ∧ vk = .int .i64 (k : Int) ∧ LB w h r wr m' r [(g5, #[.int .i64 x0, .int .i64 x1], 64), (w.heap.size, #[.int .i64 0, .int .i64 0], 64)] ∧ ShDn m' 2 r.ps Ls i k ∧ Fr h.m m' r.ps r.ps ∧ m'.calls = h.m.calls ∧ m'.failIn = h.m.failIn) (fun vk _ => n - (intOf vk).toNat)
  case atStart => exact ⟨i, h.m, Nat.le_refl _, hin, by go_num, HX3.out, HST.out, .refl _ _, rfl, rfl⟩
  case round =>
    obtain ⟨k, m', hik, hkn, rfl, hX, hS, hF, hcl, hfl⟩ := hrel
    have HX := hide hX
    have HS := hide hS
    have HF := hide hF
    have HCL := hide hcl
    have HFL := hide hfl
    clear hX hS hF hcl hfl
    obtain ⟨k2, hbl⟩ := HK2.out _ _ _ HX.out
    have hni : (n : Int) ≤ 64 := by omega
    have hkni : (k : Int) < (n : Int) := by omega
    by_cases hlt2 : k + 1 < n
    · have hd1 : decide ((k : Int) < (n : Int) - 1) = true := by simp; omega
      obtain ⟨p, hp, -, hh⟩ := HS.out.pcs.at (i := k) (by rw [HLL.out, ← HEN.out]; omega)
      have HP := hide hp
      have HH := hide hh
      obtain ⟨row1, hrow1⟩ : ∃ row1, Ls[k + 1]? = some row1 := ⟨Ls[k + 1]'(by rw [HLL.out, ← HEN.out]; omega), List.getElem?_eq_getElem _⟩
      have HROW := hide hrow1
      have HRI := hide (HS.out.high (k + 1) row1 (by omega) hrow1)
      have HRM := hide (List.mem_of_getElem? hrow1)
      have hrl : row1.length = 2 := HKP.out.wide HRM.out
      have hk63 : k + 1 < 64 := by omega
      clear hrow1 hp hh
      go_wp2_with (first
        | (go_at_call 72; refine (HRD.out _ _ _ (k + 1) row1 _ HX.out HS.out.inv hk63 (by omega) HRI.out HRM.out).mono ?_; rintro e w3 ⟨rfl, hX3⟩; have HX3 := hide hX3; clear hX3)
        | (go_at_call 73; refine (HWR.out _ _ _ k p row1 HX3.out HS.out.inv (by omega) HP.out HH.out hrl).mono ?_; rintro e w4 ⟨rfl, m4, hX4, hW4⟩; have HX4 := hide hX4; have HW4 := hide hW4; clear hX4 hW4))
      go_roundw
      case rel =>
        obtain ⟨s1, s2⟩ := HS.out.step hik HROW.out HP.out hrl HW4.out
        exact ⟨k + 1, m4, by omega, by omega, by go_num, HX4.out, s1, HF.out.trans s2, HW4.out.calls.trans HCL.out, HW4.out.failIn.trans HFL.out⟩
      case measure => simp [intOf] <;> omega
    · have hd1 : decide ((k : Int) < (n : Int) - 1) = false := by simp; omega
      have HNK : Hid (n = k + 1) := by show n = k + 1; omega
      have hk64 : k < 64 := by omega
      go_wp2_with (go_at_call 105; go_loud (refine (HDR.out _ _ _ k HX.out HS.out.inv (by rw [← HEN.out]; exact HNK.out) hk64 (by have := HS.out.pcs; rw [HLL.out, ← HEN.out, HNK.out] at this; exact this)).mono ?_; rintro e w4 ⟨rfl, m4, r4, hX4, hD4, hn4, hc4, hm4⟩; have HX4 := hide hX4; have HD4 := hide hD4; have HN4 := hide hn4; have HC4 := hide hc4; have HM4 := hide hm4; have hmA : ((g5, #[.int .i64 x0, .int .i64 x1], 64) : Loc) ∈ ([(g5, #[.int .i64 x0, .int .i64 x1], 64), (w.heap.size, #[.int .i64 0, .int .i64 0], 64)] : List Loc) := List.Mem.head _; have hmB : ((w.heap.size, #[.int .i64 0, .int .i64 0], 64) : Loc) ∈ ([(g5, #[.int .i64 x0, .int .i64 x1], 64), (w.heap.size, #[.int .i64 0, .int .i64 0], 64)] : List Loc) := List.Mem.tail _ (List.Mem.head _); have cA0 : w4.cell? ⟨g5, 0, none⟩ = some (.int .i64 x0) := (by rw [hX4.cell hmA 0]; rfl); have cB0 : w4.cell? ⟨w.heap.size, 0, none⟩ = some (.int .i64 0) := (by rw [hX4.cell hmB 0]; rfl); have fB0 := hX4.fz hmB 0; have cA1 : w4.cell? ⟨g5, 1, none⟩ = some (.int .i64 x1) := (by rw [hX4.cell hmA 1]; rfl); have cB1 : w4.cell? ⟨w.heap.size, 1, none⟩ = some (.int .i64 0) := (by rw [hX4.cell hmB 1]; rfl); have fB1 := hX4.fz hmB 1; clear hX4 hD4 hn4 hc4 hm4 hmA hmB))
      have HE := hide (((HX4.out.put (k := 1) rfl 0 (.int .i64 x0)).put (k := 1) rfl 1 (.int .i64 x1)))
      have HG := HE.out.at_ (List.Mem.tail _ (List.Mem.head _))
      have HREM := hide (remd_of HKP.out HS.out (by rw [HLL.out, ← HEN.out]; exact HNK.out) HIL.out HF.out HCL.out HFL.out HD4.out)
      have HRR : Hid ((.agg (intsV row).toArray : Value) = .agg #[.int .i64 x0, .int .i64 x1]) := by rw [HROW0.out]; rfl
      refine bodyPost_ret (v := .agg #[.int .i64 x0, .int .i64 x1]) (results_row1 rfl _ _ (w.heap.size) _ #[.int .i64 x0, .int .i64 x1] (0, 0) _ rfl HG Tryz.underlying64 rfl (by kernel_rfl)) rfl ⟨m4, r4, by rw [HRR.out], HE.out.ls, HREM.out, ?_, HC4.out, HM4.out⟩
      rw [HN4.out, ← HEN.out]
      exact HNK.out.symm
set_option maxHeartbeats 4000000 in
set_option maxRecDepth 100000 in
theorem close2_any {h : Hp} {r : Rw} {w : World} (L : LR w h r) (I : Inv h.m) (hn : r.n ≤ 64) (P : Pcs h.m 2 r.ps r.n) :
    Calls Tryz.prog 87 #[r.ptr] w fun e w' => ∃ (m' : HM) (r2 : Rw), e = .returned (.tuple #[]) ∧ LS w h r w' m' r2 ∧ Clsd h.m m' r.ps ∧ r2.ps = [] ∧ r2.n = 0 ∧ r2.closed = true ∧ r2.more = r.more := by
  have HX0 : Hid (LB w h r w h.m r []) := LB.start L
  have HDR : Hid (∀ W m' k r1, LB w h r W m' r1 [] → Inv m' → r1.n = k + 1 → k < 64 → Pcs m' 2 r1.ps (k + 1) → Calls Tryz.prog 105 #[r.ptr] W fun e W' => e = .returned (.tuple #[]) ∧ ∃ (m2 : HM) (r2 : Rw), LB w h r W' m2 r2 [] ∧ Dropd m' m2 2 r1.ps r2.ps k ∧ r2.n = k ∧ r2.closed = r1.closed ∧ r2.more = r1.more) := fun W m' k r1 X I' hk hk64 P => lb_drop2 X I' k hk hk64 P
  have HK2 : Hid (∀ W m' r1, LB w h r W m' r1 [] → W.cell? ⟨r.blk, 2, none⟩ = some (.int .i64 r1.n) ∧ W.cell? ⟨r.blk, 3, none⟩ = some (.bool r1.closed) ∧ W.frozen? ⟨r.blk, 3, none⟩ = false ∧ r.blk < W.heap.size) := fun W m' r1 X => ⟨X.ls.k2, X.ls.k3, X.ls.free 3, X.ls.lt⟩
  have HSC : Hid (∀ W m' r1, LB w h r W m' r1 [] → LB w h r (W.setCell ⟨r.blk, 3, none⟩ (.bool true)) m' { r1 with closed := true } []) := fun W m' r1 X => X.setC true
  have HI := hide I
  have HP := hide P
  have hrp : r.ptr = .pointer (some ⟨r.blk, 0, none⟩) := rfl
  rw [hrp] at HDR ⊢
  have hlt := L.rlt r.blk (.inl rfl)
  obtain ⟨b, eb⟩ : ∃ b, b = r.blk := ⟨_, rfl⟩
  rw [← eb] at HDR HK2 HSC hlt ⊢
  clear hrp eb L I P
  go_enter Tryz.func87, Tryz.ntmps87
  go_wp2_with fail
  go_loopw [] (fun wr => ∃ (m' : HM) (r1 : Rw), r1.n ≤ 64 ∧ LB w h r wr m' r1 [] ∧ Pcs m' 2 r1.ps r1.n ∧ Inv m' ∧ Fr h.m m' r.ps r1.ps ∧ m'.calls = h.m.calls ∧ m'.failIn = h.m.failIn ∧ r1.more = r.more) (fun wr => (match wr.cell? ⟨b, 2, none⟩ with | some (.int _ z) => z.toNat | _ => 0))
  case atStart => exact ⟨h.m, r, hn, HX0.out, HP.out, HI.out, .refl _ _, rfl, rfl, rfl⟩
  case round =>
    obtain ⟨m', r1, h1n, hX, hP, hI, hF, hcl, hfl, hmo⟩ := hrel
    obtain ⟨k2, k3, f3, hbl⟩ := HK2.out _ _ _ hX
    have HX := hide hX
    have HF := hide hF
    have HCL := hide hcl
    have HFL := hide hfl
    have HMO := hide hmo
    have HIM := hide hI
    obtain ⟨n, en⟩ : ∃ n, n = r1.n := ⟨_, rfl⟩
    rw [← en] at hP k2 h1n
    have HPN := hide hP
    have HEN := hide en
    clear hX hF hcl hfl hmo hI hP
    cases n with
    | zero =>
      have hd1 : decide ((0 : Int) < ((0 : Nat) : Int)) = false := by decide
      obtain ⟨e1, hC⟩ := clsd_of HIM.out HPN.out HF.out HCL.out HFL.out
      have HC := hide hC
      have HS := hide (HSC.out _ _ _ HX.out)
      have HE1 := hide e1
      clear e1 hC en
      go_wp2_with fail
      go_end0
      exact ⟨m', _, rfl, HS.out.ls, HC.out, HE1.out, HEN.out.symm, rfl, HMO.out⟩
    | succ k =>
      have hd1 : decide ((0 : Int) < ((k + 1 : Nat) : Int)) = true := by simp
      have hk64 : k < 64 := by omega
      have hk0 : (0 : Int) < (k : Int) + 1 := by omega
      clear en
      go_wp2_with (go_at_call 105; go_loud (refine (HDR.out _ m' k r1 HX.out HIM.out HEN.out.symm hk64 HPN.out).mono ?_; rintro e w4 ⟨rfl, m4, r4, hX4, hD4, hn4, hc4, hm4⟩; have HX4 := hide hX4; have HD4 := hide hD4; have HN4 := hide hn4; have HM4 := hide hm4; have k42 := (HK2.out _ _ _ hX4).1; clear hX4 hD4 hn4 hc4 hm4))
      go_roundw
      case rel =>
        have D := HD4.out
        exact ⟨m4, r4, by rw [HN4.out]; omega, HX4.out, by rw [HN4.out]; exact D.pcs, D.inv, HF.out.trans D.fr, D.calls.trans HCL.out, D.failIn.trans HFL.out, HM4.out.trans HMO.out⟩
      case measure =>
        rw [k42, k2, HN4.out]
        simp
section
variable {w W : World} {h : Hp} {r r1 : Rw} {m : HM} {bs : List Loc} {Ls : List (List Int)}
end
end Go.Proofs.YtdaklffbfadghaaGreat

namespace Go.Proofs.YtdaklffbfadghaaGreat
open Go.RowKit HP
set_option linter.unusedVariables false
set_option linter.unusedSimpArgs false
section
variable {w W : World} {h : Hp} {r r1 : Rw} {m : HM} {bs : List Loc}
theorem row3 {row : List Int} (hl : row.length = 3) : ∃ x0 x1 x2, row = [x0, x1, x2] := by
  match row, hl with
  | [x0, x1, x2], _ => exact ⟨x0, x1, x2, rfl⟩
theorem lb_read3 (X : LB w h r W m r1 bs) (I : Inv m) (i : Nat) (hi : i < 64) {row : List Int} (hr : RowIs m 3 r1.ps i row) (hb : ∀ v ∈ row, -9223372036854775808 ≤ v ∧ v ≤ 9223372036854775807) :
    Calls Tryz.prog 81 #[r.ptr, .int .i64 i] W fun e W' => e = .returned (.agg (intsV row).toArray) ∧ LB w h r W' m r1 bs := by
  obtain ⟨x0, x1, x2, rfl⟩ := row3 (row := row) (by obtain ⟨p, -, hl, -⟩ := hr; exact hl)
  have hrb := X.ls.rb
  refine (X.call (P := fun e W' m2 r2 => e = .returned (.agg (intsV [x0, x1, x2]).toArray) ∧ m2 = m ∧ r2 = r1) fun h1 L e1 e2 e3 => ?_).mono ?_
  · have := read3_any L (by rw [e1]; exact I) i hi (by rw [e1]; exact hr) hb
    unfold Rw.ptr at this ⊢
    rw [hrb, e1] at this
    refine this.mono ?_
    rintro e W' ⟨he, hX⟩
    exact ⟨m, r1, hX, he, rfl, rfl⟩
  · rintro e W' ⟨m2, r2, hX, he, rfl, rfl⟩
    exact ⟨he, hX⟩
theorem lb_write3 (X : LB w h r W m r1 bs) (I : Inv m) (i : Nat) (hi : i < 64) {p : Int} (hp : r1.ps[i / 4]? = some p) (hh : Has m p 96) (row : List Int) (hl : row.length = 3) :
    Calls Tryz.prog 80 #[r.ptr, .int .i64 i, .agg (intsV row).toArray] W fun e W' => e = .returned (.tuple #[]) ∧ ∃ m', LB w h r W' m' r1 bs ∧ Writing m m' p (((i % 4 * (8 * 3) : Nat)) : Int) row (8 * row.length) := by
  obtain ⟨x0, x1, x2, rfl⟩ := row3 hl
  have hrb := X.ls.rb
  refine (X.call (P := fun e W' m2 r2 => e = .returned (.tuple #[]) ∧ r2 = r1 ∧ Writing m m2 p (((i % 4 * (8 * 3) : Nat)) : Int) [x0, x1, x2] (8 * 3)) fun h1 L e1 e2 e3 => ?_).mono ?_
  · have := write3_any L (by rw [e1]; exact I) i hi hp (by rw [e1]; exact hh) x0 x1 x2
    unfold Rw.ptr at this ⊢
    rw [hrb, e1] at this
    refine this.mono ?_
    rintro e W' ⟨m', he, hX, hW⟩
    exact ⟨m', r1, hX, he, rfl, hW⟩
  · rintro e W' ⟨m2, r2, hX, he, rfl, hW⟩
    exact ⟨he, m2, hX, hW⟩
theorem lb_grow3 (X : LB w h r W m r1 bs) (I : Inv m) (hn : r1.n ≤ 64) (P : Pcs m 3 r1.ps r1.n) (hc : m.calls < 1000000000) :
    Calls Tryz.prog 106 #[r.ptr] W fun e W' => ∃ (ok : Bool) (m' : HM) (r2 : Rw), e = .returned (.int .i64 (if ok then 0 else 3)) ∧ LB w h r W' m' r2 bs ∧ Grew m m' 3 r1.ps r2.ps r1.n ok ∧ r2.n = r1.n + (if ok then 1 else 0) ∧ r2.closed = r1.closed ∧ r2.more = r1.more := by
  have hrb := X.ls.rb
  refine (X.call (P := fun e W' m' r2 => ∃ ok : Bool, e = .returned (.int .i64 (if ok then 0 else 3)) ∧ Grew m m' 3 r1.ps r2.ps r1.n ok ∧ r2.n = r1.n + (if ok then 1 else 0) ∧ r2.closed = r1.closed ∧ r2.more = r1.more) fun h1 L e1 e2 e3 => ?_).mono ?_
  · have := grow3_any L (by rw [e1]; exact I) hn (by rw [e1]; exact P) (by rw [e3]; exact hc)
    unfold Rw.ptr at this ⊢
    rw [hrb, e1] at this
    refine this.mono ?_
    rintro e W' ⟨ok, m', r2, he, hX, hG⟩
    exact ⟨m', r2, hX, ok, he, hG⟩
  · rintro e W' ⟨m2, r2, hX, ok, he, hG⟩
    exact ⟨ok, m2, r2, he, hX, hG⟩
theorem lb_drop3 (X : LB w h r W m r1 bs) (I : Inv m) (k : Nat) (hk : r1.n = k + 1) (hk64 : k < 64) (P : Pcs m 3 r1.ps (k + 1)) :
    Calls Tryz.prog 82 #[r.ptr] W fun e W' => e = .returned (.tuple #[]) ∧ ∃ (m' : HM) (r2 : Rw), LB w h r W' m' r2 bs ∧ Dropd m m' 3 r1.ps r2.ps k ∧ r2.n = k ∧ r2.closed = r1.closed ∧ r2.more = r1.more := by
  have hrb := X.ls.rb
  refine (X.call (P := fun e W' m' r2 => e = .returned (.tuple #[]) ∧ Dropd m m' 3 r1.ps r2.ps k ∧ r2.n = k ∧ r2.closed = r1.closed ∧ r2.more = r1.more) fun h1 L e1 e2 e3 => ?_).mono ?_
  · have := drop3_any L (by rw [e1]; exact I) k hk hk64 (by rw [e1]; exact P)
    unfold Rw.ptr at this ⊢
    rw [hrb, e1] at this
    refine this.mono ?_
    rintro e W' ⟨m', r2, he, hX, hG⟩
    exact ⟨m', r2, hX, he, hG⟩
  · rintro e W' ⟨m2, r2, hX, he, hG⟩
    exact ⟨he, m2, r2, hX, hG⟩
end
set_option maxHeartbeats 4000000 in
set_option maxRecDepth 100000 in
theorem insert3_any {h : Hp} {r : Rw} {w : World} {Ls : List (List Int)} (L : LR w h r) (I : Inv h.m) (K : Kp h.m 3 r.ps Ls) (hl : Ls.length = r.n) (hc : h.calls < 1000000000) (hb : BdL Ls) (i : Nat) (hi : i ≤ r.n) (x0 x1 x2 : Int) :
    Calls Tryz.prog 78 #[r.ptr, .int .i64 i, .agg #[.int .i64 x0, .int .i64 x1, .int .i64 x2]] w fun e w' => ∃ (ok : Bool) (m' : HM) (r2 : Rw), e = .returned (.int .i64 (if ok then 0 else 3)) ∧ LS w h r w' m' r2 ∧ Insd h.m m' 3 r.ps r2.ps Ls i [x0, x1, x2] ok ∧ r2.n = r.n + (if ok then 1 else 0) ∧ r2.closed = r.closed ∧ r2.more = r.more := by
  have h64 := K.len
  obtain ⟨t, ht⟩ : ∃ t, t = [x0, x1, x2] := ⟨_, rfl⟩
  have htl : t.length = 3 := by rw [ht]; rfl
  have HIT : Hid ((intsV t).toArray = #[.int .i64 x0, .int .i64 x1, .int .i64 x2]) := by rw [ht]; rfl
  rw [← ht]
  have HX0 : Hid (LB w h r w h.m r []) := LB.start L
  have HGR : Hid (∀ W bs, LB w h r W h.m r bs → Calls Tryz.prog 106 #[r.ptr] W fun e W' => ∃ (ok : Bool) (m' : HM) (r2 : Rw), e = .returned (.int .i64 (if ok then 0 else 3)) ∧ LB w h r W' m' r2 bs ∧ Grew h.m m' 3 r.ps r2.ps r.n ok ∧ r2.n = r.n + (if ok then 1 else 0) ∧ r2.closed = r.closed ∧ r2.more = r.more) := fun W bs X => lb_grow3 X I (by omega) (by rw [← hl]; exact K.pcs) hc
  have HRD : Hid (∀ W bs m' r2 (j : Nat) row (a : Int), LB w h r W m' r2 bs → Inv m' → j < 64 → a = (j : Int) → RowIs m' 3 r2.ps j row → row ∈ Ls → Calls Tryz.prog 81 #[r.ptr, .int .i64 a] W fun e W' => e = .returned (.agg (intsV row).toArray) ∧ LB w h r W' m' r2 bs) := fun W bs m' r2 j row a X I' hj ea hr hm => by
    subst ea
    exact lb_read3 X I' j hj hr (hb row hm)
  have HWR : Hid (∀ W bs m' r2 (j : Nat) p row, LB w h r W m' r2 bs → Inv m' → j < 64 → r2.ps[j / 4]? = some p → Has m' p 96 → row.length = 3 → Calls Tryz.prog 80 #[r.ptr, .int .i64 j, .agg (intsV row).toArray] W fun e W' => e = .returned (.tuple #[]) ∧ ∃ m2, LB w h r W' m2 r2 bs ∧ Writing m' m2 p (((j % 4 * (8 * 3) : Nat)) : Int) row (8 * row.length)) := fun W bs m' r2 j p row X I' hj hp hh hrl => lb_write3 X I' j hj hp hh row hrl
  have HK2 : Hid (∀ W bs m' r2, LB w h r W m' r2 bs → W.cell? ⟨r.blk, 2, none⟩ = some (.int .i64 r2.n) ∧ r.blk < W.heap.size) := fun W bs m' r2 X => ⟨X.ls.k2, X.ls.lt⟩
  have HKP := hide K
  have HLL := hide hl
  have hrp : r.ptr = .pointer (some ⟨r.blk, 0, none⟩) := rfl
  rw [hrp] at HGR HRD HWR ⊢
  have hlt := L.rlt r.blk (.inl rfl)
  obtain ⟨b, eb⟩ : ∃ b, b = r.blk := ⟨_, rfl⟩
  rw [← eb] at HGR HRD HWR HK2 hlt ⊢
  obtain ⟨n, en⟩ : ∃ n, n = r.n := ⟨_, rfl⟩
  have HEN := hide en
  rw [← en] at hi hl
  rw [hl] at h64
  clear K hrp eb L I en hl ht
  go_enter Tryz.func78, Tryz.ntmps78
  go_wp2_with fail
  refine (HGR.out _ _ (HX0.out.alloc #[.int .i64 x0, .int .i64 x1, .int .i64 x2] 135)).mono ?_
  rintro e w2 ⟨ok, m1, r2, rfl, hX2, hG, h2n, h2c, h2m⟩
  have HX2 := hide hX2
  have HG := hide hG
  have H2N := hide h2n
  have H2C := hide h2c
  have H2M := hide h2m
  clear hX2 hG h2n h2c h2m
  cases ok
  · have HIN : Hid (Insd h.m m1 3 r.ps r2.ps Ls i t false) := insd_no HKP.out (by rw [HLL.out]; exact HG.out)
    go_wp2_with fail
    go_ret
    exact ⟨false, m1, r2, rfl, HX2.out.ls, HIN.out, H2N.out, H2C.out, H2M.out⟩
  · obtain ⟨k2, hbl⟩ := HK2.out _ _ _ _ HX2.out
    rw [H2N.out, ← HEN.out, if_pos rfl] at k2
    push_cast at k2
    have hni : (n : Int) ≤ 64 := by omega
    have HUP : Hid (ShUp m1 3 r2.ps Ls n) := by
      have G : Grew h.m m1 3 r.ps r2.ps Ls.length true := by rw [HLL.out]; exact HG.out
      have := G.up HKP.out
      rw [HLL.out, ← HEN.out] at this
      exact this
    have hn64 : n < 64 := by
      rw [HEN.out]
      exact (HG.out.yes rfl).1
    go_wp2_with fail
    go_loopw [8] (fun vk wr => ∃ (k : Nat) (m' : HM), i ≤ k ∧ k ≤ n ∧ vk = .int .i64 (k : Int) ∧ LB w h r wr m' r2 [(w.heap.size, #[.int .i64 x0, .int .i64 x1, .int .i64 x2], 135)] ∧ ShUp m' 3 r2.ps Ls k ∧ Fr m1 m' r2.ps r2.ps ∧ m'.calls = m1.calls ∧ m'.failIn = m1.failIn) (fun vk _ => (intOf vk).toNat)
    case atStart => exact ⟨n, m1, hi, Nat.le_refl _, by go_num, HX2.out, HUP.out, .refl _ _, rfl, rfl⟩
    case round =>
      obtain ⟨k, m', hik, hkn, rfl, hX, hS, hF, hcl, hfl⟩ := hrel
      have HX := hide hX
      have HS := hide hS
      have HF := hide hF
      have HCL := hide hcl
      have HFL := hide hfl
      clear hX hS hF hcl hfl
      obtain ⟨p, hp, -, hh⟩ := HS.out.pcs.at (i := k) (by rw [HLL.out, ← HEN.out]; omega)
      have HP := hide hp
      have HH := hide hh
      clear hp hh
      by_cases hlt2 : i < k
      · have hd1 : decide ((i : Int) < (k : Int)) = true := by simp; omega
        have hlt3 : (i : Int) < (k : Int) := by omega
        obtain ⟨k', ek⟩ : ∃ k', k = k' + 1 := ⟨k - 1, by omega⟩
        have hk' : k' < Ls.length := by rw [HLL.out, ← HEN.out]; omega
        obtain ⟨row, hrow⟩ : ∃ row, Ls[k']? = some row := ⟨Ls[k'], List.getElem?_eq_getElem hk'⟩
        have HROW := hide hrow
        have HRI := hide (HS.out.low k' row (by omega) hrow)
        have HRM := hide (List.mem_of_getElem? hrow)
        have hrl : row.length = 3 := HKP.out.wide HRM.out
        have hki : (k : Int) ≤ 64 := by omega
        have HEK := hide ek
        have hk63 : k' < 64 := by omega
        clear hrow hk' ek
        go_wp2_with (first
          | (go_at_call 81; refine (HRD.out _ _ _ _ k' row _ HX.out HS.out.inv hk63 (by have := HEK.out; omega) HRI.out HRM.out).mono ?_; rintro e w3 ⟨rfl, hX3⟩; have HX3 := hide hX3; clear hX3)
          | (go_at_call 80; refine (HWR.out _ _ _ _ k p row HX3.out HS.out.inv (by omega) HP.out HH.out hrl).mono ?_; rintro e w4 ⟨rfl, m4, hX4, hW4⟩; have HX4 := hide hX4; have HW4 := hide hW4; clear hX4 hW4))
        go_roundw
        case rel =>
          have S := HS.out
          have HP2 := HP.out
          have W4 := HW4.out
          have ek := HEK.out
          rw [ek] at S HP2 W4
          obtain ⟨s1, s2⟩ := S.step HROW.out HP2 hrl W4
          exact ⟨k', m4, by omega, by omega, by subst ek; go_num, HX4.out, s1, HF.out.trans s2, W4.calls.trans HCL.out, W4.failIn.trans HFL.out⟩
        case measure => simp [intOf] <;> omega
      · have hd1 : decide ((i : Int) < (k : Int)) = false := by simp; omega
        have hki : k = i := by omega
        have HWT : Hid (Calls Tryz.prog 80 #[.pointer (some ⟨b, 0, none⟩), .int .i64 i, .agg #[.int .i64 x0, .int .i64 x1, .int .i64 x2]] wr fun e W' => e = .returned (.tuple #[]) ∧ ∃ m2, LB w h r W' m2 r2 [(w.heap.size, #[.int .i64 x0, .int .i64 x1, .int .i64 x2], 135)] ∧ Writing m' m2 p (((i % 4 * (8 * 3) : Nat)) : Int) t (8 * t.length)) := by
          have := HWR.out wr _ m' r2 i p t HX.out HS.out.inv (by omega) (by rw [← hki]; exact HP.out) HH.out htl
          rw [HIT.out] at this
          exact this
        have cA0 : wr.cell? ⟨w.heap.size, 0, none⟩ = some (.int .i64 x0) := by rw [HX.out.cell (List.Mem.head _) 0]; rfl
        have cA1 : wr.cell? ⟨w.heap.size, 1, none⟩ = some (.int .i64 x1) := by rw [HX.out.cell (List.Mem.head _) 1]; rfl
        have cA2 : wr.cell? ⟨w.heap.size, 2, none⟩ = some (.int .i64 x2) := by rw [HX.out.cell (List.Mem.head _) 2]; rfl
        have HIN : Hid (∀ m2, Writing m' m2 p (((i % 4 * (8 * 3) : Nat)) : Int) t (8 * t.length) → Insd h.m m2 3 r.ps r2.ps Ls i t true) := fun m2 W2 => by
          have G : Grew h.m m1 3 r.ps r2.ps Ls.length true := by rw [HLL.out]; exact HG.out
          have S := HS.out
          rw [hki] at S
          exact insd_yes G S HF.out HCL.out HFL.out (by rw [HLL.out, ← HEN.out]; exact hi) (by rw [← hki]; exact HP.out) htl W2
        clear hki
        go_wp2_with (go_at_call 80; refine HWT.out.mono ?_; rintro e w4 ⟨rfl, m4, hX4, hW4⟩; have HX4 := hide hX4; have HW4 := hide hW4; clear hX4 hW4)
        go_ret
        exact ⟨true, m4, r2, rfl, HX4.out.ls, HIN.out _ HW4.out, H2N.out, H2C.out, H2M.out⟩
set_option maxHeartbeats 4000000 in
set_option maxRecDepth 100000 in
theorem close3_any {h : Hp} {r : Rw} {w : World} (L : LR w h r) (I : Inv h.m) (hn : r.n ≤ 64) (P : Pcs h.m 3 r.ps r.n) :
    Calls Tryz.prog 86 #[r.ptr] w fun e w' => ∃ (m' : HM) (r2 : Rw), e = .returned (.tuple #[]) ∧ LS w h r w' m' r2 ∧ Clsd h.m m' r.ps ∧ r2.ps = [] ∧ r2.n = 0 ∧ r2.closed = true ∧ r2.more = r.more := by
  have HX0 : Hid (LB w h r w h.m r []) := LB.start L
  have HDR : Hid (∀ W m' k r1, LB w h r W m' r1 [] → Inv m' → r1.n = k + 1 → k < 64 → Pcs m' 3 r1.ps (k + 1) → Calls Tryz.prog 82 #[r.ptr] W fun e W' => e = .returned (.tuple #[]) ∧ ∃ (m2 : HM) (r2 : Rw), LB w h r W' m2 r2 [] ∧ Dropd m' m2 3 r1.ps r2.ps k ∧ r2.n = k ∧ r2.closed = r1.closed ∧ r2.more = r1.more) := fun W m' k r1 X I' hk hk64 P => lb_drop3 X I' k hk hk64 P
  have HK2 : Hid (∀ W m' r1, LB w h r W m' r1 [] → W.cell? ⟨r.blk, 2, none⟩ = some (.int .i64 r1.n) ∧ W.cell? ⟨r.blk, 3, none⟩ = some (.bool r1.closed) ∧ W.frozen? ⟨r.blk, 3, none⟩ = false ∧ r.blk < W.heap.size) := fun W m' r1 X => ⟨X.ls.k2, X.ls.k3, X.ls.free 3, X.ls.lt⟩
  have HSC : Hid (∀ W m' r1, LB w h r W m' r1 [] → LB w h r (W.setCell ⟨r.blk, 3, none⟩ (.bool true)) m' { r1 with closed := true } []) := fun W m' r1 X => X.setC true
  have HI := hide I
  have HP := hide P
  have hrp : r.ptr = .pointer (some ⟨r.blk, 0, none⟩) := rfl
  rw [hrp] at HDR ⊢
  have hlt := L.rlt r.blk (.inl rfl)
  obtain ⟨b, eb⟩ : ∃ b, b = r.blk := ⟨_, rfl⟩
  rw [← eb] at HDR HK2 HSC hlt ⊢
  clear hrp eb L I P
  go_enter Tryz.func86, Tryz.ntmps86
  go_wp2_with fail
  go_loopw [] (fun wr => ∃ (m' : HM) (r1 : Rw), r1.n ≤ 64 ∧ LB w h r wr m' r1 [] ∧ Pcs m' 3 r1.ps r1.n ∧ Inv m' ∧ Fr h.m m' r.ps r1.ps ∧ m'.calls = h.m.calls ∧ m'.failIn = h.m.failIn ∧ r1.more = r.more) (fun wr => (match wr.cell? ⟨b, 2, none⟩ with | some (.int _ z) => z.toNat | _ => 0))
  case atStart => exact ⟨h.m, r, hn, HX0.out, HP.out, HI.out, .refl _ _, rfl, rfl, rfl⟩
  case round =>
    obtain ⟨m', r1, h1n, hX, hP, hI, hF, hcl, hfl, hmo⟩ := hrel
    obtain ⟨k2, k3, f3, hbl⟩ := HK2.out _ _ _ hX
    have HX := hide hX
    have HF := hide hF
    have HCL := hide hcl
    have HFL := hide hfl
    have HMO := hide hmo
    have HIM := hide hI
    obtain ⟨n, en⟩ : ∃ n, n = r1.n := ⟨_, rfl⟩
    rw [← en] at hP k2 h1n
    have HPN := hide hP
    have HEN := hide en
    clear hX hF hcl hfl hmo hI hP
    cases n with
    | zero =>
      have hd1 : decide ((0 : Int) < ((0 : Nat) : Int)) = false := by decide
      obtain ⟨e1, hC⟩ := clsd_of HIM.out HPN.out HF.out HCL.out HFL.out
      have HC := hide hC
      have HS := hide (HSC.out _ _ _ HX.out)
      have HE1 := hide e1
      clear e1 hC en
      go_wp2_with fail
      go_end0
      exact ⟨m', _, rfl, HS.out.ls, HC.out, HE1.out, HEN.out.symm, rfl, HMO.out⟩
    | succ k =>
      have hd1 : decide ((0 : Int) < ((k + 1 : Nat) : Int)) = true := by simp
      have hk64 : k < 64 := by omega
      have hk0 : (0 : Int) < (k : Int) + 1 := by omega
      clear en
      go_wp2_with (go_at_call 82; go_loud (refine (HDR.out _ m' k r1 HX.out HIM.out HEN.out.symm hk64 HPN.out).mono ?_; rintro e w4 ⟨rfl, m4, r4, hX4, hD4, hn4, hc4, hm4⟩; have HX4 := hide hX4; have HD4 := hide hD4; have HN4 := hide hn4; have HM4 := hide hm4; have k42 := (HK2.out _ _ _ hX4).1; clear hX4 hD4 hn4 hc4 hm4))
      go_roundw
      case rel =>
        have D := HD4.out
        exact ⟨m4, r4, by rw [HN4.out]; omega, HX4.out, by rw [HN4.out]; exact D.pcs, D.inv, HF.out.trans D.fr, D.calls.trans HCL.out, D.failIn.trans HFL.out, HM4.out.trans HMO.out⟩
      case measure =>
        rw [k42, k2, HN4.out]
        simp
section
variable {w W : World} {h : Hp} {r r1 : Rw} {m : HM} {bs : List Loc} {Ls : List (List Int)}
theorem lb_insert3 (X : LB w h r W m r1 bs) (I : Inv m) (K : Kp m 3 r1.ps Ls) (hl : Ls.length = r1.n) (hc : m.calls < 1000000000) (hb : BdL Ls) (i : Nat) (hi : i ≤ r1.n) (x0 x1 x2 : Int) :
    Calls Tryz.prog 78 #[r.ptr, .int .i64 i, .agg #[.int .i64 x0, .int .i64 x1, .int .i64 x2]] W fun e W' => ∃ (ok : Bool) (m' : HM) (r2 : Rw), e = .returned (.int .i64 (if ok then 0 else 3)) ∧ LB w h r W' m' r2 bs ∧ Insd m m' 3 r1.ps r2.ps Ls i [x0, x1, x2] ok ∧ r2.n = r1.n + (if ok then 1 else 0) ∧ r2.closed = r1.closed ∧ r2.more = r1.more := by
  have hrb := X.ls.rb
  refine (X.call (P := fun e W' m' r2 => ∃ ok : Bool, e = .returned (.int .i64 (if ok then 0 else 3)) ∧ Insd m m' 3 r1.ps r2.ps Ls i [x0, x1, x2] ok ∧ r2.n = r1.n + (if ok then 1 else 0) ∧ r2.closed = r1.closed ∧ r2.more = r1.more) fun h1 L e1 e2 e3 => ?_).mono ?_
  · have := insert3_any L (by rw [e1]; exact I) (by rw [e1]; exact K) hl (by rw [e3]; exact hc) hb i hi x0 x1 x2
    unfold Rw.ptr at this ⊢
    rw [hrb, e1] at this
    refine this.mono ?_
    rintro e W' ⟨ok, m', r2, he, hX, hG⟩
    exact ⟨m', r2, hX, ok, he, hG⟩
  · rintro e W' ⟨m2, r2, hX, ok, he, hG⟩
    exact ⟨ok, m2, r2, he, hX, hG⟩
theorem lb_close3 (X : LB w h r W m r1 bs) (I : Inv m) (hn : r1.n ≤ 64) (P : Pcs m 3 r1.ps r1.n) :
    Calls Tryz.prog 86 #[r.ptr] W fun e W' => e = .returned (.tuple #[]) ∧ ∃ (m' : HM) (r2 : Rw), LB w h r W' m' r2 bs ∧ Clsd m m' r1.ps ∧ r2.ps = [] ∧ r2.n = 0 ∧ r2.closed = true ∧ r2.more = r1.more := by
  have hrb := X.ls.rb
  refine (X.call (P := fun e W' m' r2 => e = .returned (.tuple #[]) ∧ Clsd m m' r1.ps ∧ r2.ps = [] ∧ r2.n = 0 ∧ r2.closed = true ∧ r2.more = r1.more) fun h1 L e1 e2 e3 => ?_).mono ?_
  · have := close3_any L (by rw [e1]; exact I) hn (by rw [e1]; exact P)
    unfold Rw.ptr at this ⊢
    rw [hrb, e1] at this
    refine this.mono ?_
    rintro e W' ⟨m', r2, he, hX, hG⟩
    exact ⟨m', r2, hX, he, hG⟩
  · rintro e W' ⟨m2, r2, hX, he, hG⟩
    exact ⟨he, m2, r2, hX, hG⟩
end
end Go.Proofs.YtdaklffbfadghaaGreat

namespace Go.Proofs.YtdaklffbfadghaaGreat
open Go.RowKit HP
set_option linter.unusedVariables false
set_option linter.unusedSimpArgs false
/-- a number that may be kept -/
def fitsB (v : Int) : Bool := !(decide (v < -2147483648) || decide (2147483648 ≤ v))
theorem fitsB_iff {v : Int} : fitsB v = true ↔ -2147483648 ≤ v ∧ v < 2147483648 := by
  unfold fitsB
  simp
theorem all_at {l : List Int} {k : Nat} {v : Int} (hv : l[k]? = some v) (hf : fitsB v = false) : l.all fitsB = false := by
  rw [List.all_eq_false]
  exact ⟨v, List.mem_of_getElem? hv, by rw [hf]; decide⟩
set_option maxHeartbeats 4000000 in
set_option maxRecDepth 100000 in
theorem areNumbers_any (A : Option Addr) (n c : Nat) (l : List Int) (w : World) (hl : l.length = n) (hr : Rd w w.heap.size A (intsV l)) (hn : n ≤ 1000) :
    Calls Tryz.prog 89 #[.slice A n c] w fun e w' => e = .returned (.bool (l.all fitsB)) ∧ Q w w' := by
  obtain ⟨res, hres⟩ : ∃ res, res = l.all fitsB := ⟨_, rfl⟩
  rw [← hres]
  have HRES := hide hres
  have HR := hide hr
  have HL := hide hl
  have hni : (n : Int) ≤ 1000 := by omega
  clear hres hr hl
  go_enter Tryz.func89, Tryz.ntmps89
  go_wp2_with fail
  go_loopw [7] (fun vi wr => ∃ k : Nat, k ≤ n ∧ vi = .int .i64 (k : Int) ∧ wr = w ∧ ∀ (j : Nat) (x : Int), j < k → l[j]? = some x → fitsB x = true) (fun vi _ => n - (intOf vi).toNat)
  case atStart => exact ⟨0, by omega, by go_num, rfl, fun j x hj => by omega⟩
  case round =>
    obtain ⟨k, hk, rfl, rfl, hall⟩ := hrel
    have HA := hide hall
    clear hall
    by_cases hlt : k < n
    · have hd1 : decide ((k : Int) < (n : Int)) = true := by simp; omega
      have hd0 : decide (k < n) = true := by simp; omega
      have hlti : (k : Int) < (n : Int) := by omega
      have hkl : k < l.length := by rw [HL.out]; exact hlt
      obtain ⟨v, hv⟩ : ∃ v, l[k]? = some v := ⟨l[k], List.getElem?_eq_getElem hkl⟩
      have HV := hide hv
      obtain ⟨b, o, eA, hb, hcells⟩ := HR.out.at_ (by unfold intsV; rw [List.length_map]; omega)
      have cK : wr.cell? ⟨b, o + k, none⟩ = some (.int .i64 v) := by
        rw [hcells k (by unfold intsV; rw [List.length_map]; omega)]
        have := (List.getElem?_eq_some_iff.1 hv).2
        unfold intsV
        rw [List.getElem_map, this]
      subst eA
      clear hcells hkl hv
      cases h1 : decide (v < -2147483648)
      · cases h2 : decide (2147483648 ≤ v)
        · have HF : Hid (fitsB v = true) := by show fitsB v = true; unfold fitsB; rw [h1, h2]; rfl
          go_wp2_with fail
          go_roundw
          case rel =>
            refine ⟨k + 1, by omega, by go_num, by first | rfl | trivial, fun j x hj hx => ?_⟩
            by_cases e : j = k
            · subst e
              have := HV.out
              rw [hx] at this
              rw [Option.some.inj this]
              exact HF.out
            · exact HA.out j x (by omega) hx
          case measure => simp [intOf] <;> omega
        · have HF : Hid (res = false) := by show res = false; rw [HRES.out]; exact all_at HV.out (by unfold fitsB; rw [h1, h2]; rfl)
          go_wp2_with fail
          go_ret
          exact ⟨by rw [HF.out]; rfl, Q.refl _⟩
      · have HF : Hid (res = false) := by show res = false; rw [HRES.out]; exact all_at HV.out (by unfold fitsB; rw [h1]; rfl)
        go_wp2_with fail
        go_ret
        exact ⟨by rw [HF.out]; rfl, Q.refl _⟩
    · have hd1 : decide ((k : Int) < (n : Int)) = false := by simp; omega
      have hd0 : decide (k < n) = false := by simp; omega
      obtain rfl : k = n := by omega
      have HF : Hid (res = true) := by
        show res = true
        rw [HRES.out, List.all_eq_true]
        intro x hx
        obtain ⟨j, hj, e⟩ := List.getElem_of_mem hx
        exact HA.out j x (by rw [← HL.out]; exact hj) (by rw [List.getElem?_eq_getElem hj, e])
      go_wp2_with fail
      go_ret
      exact ⟨by rw [HF.out]; rfl, Q.refl _⟩
set_option maxHeartbeats 4000000 in
set_option maxRecDepth 100000 in
theorem isOpen_any {h : Hp} {r : Rw} {w : World} (L : LR w h r) : Calls Tryz.prog 67 #[r.ptr] w fun e w' => e = .returned (.bool (!r.closed)) ∧ Q w w' := by
  have c3 := L.k3
  unfold Rw.ptr
  obtain ⟨b, eb⟩ : ∃ b, b = r.blk := ⟨_, rfl⟩
  obtain ⟨c, ec⟩ : ∃ c, c = r.closed := ⟨_, rfl⟩
  rw [← eb, ← ec] at c3
  rw [← eb, ← ec]
  clear eb ec L
  go_enter Tryz.func67, Tryz.ntmps67
  go_wp2_with fail
  go_ret
  exact ⟨rfl, Q.refl _⟩
/-- a list that cannot be used: nil or closed -/
def DeadL (v : Value) (w : World) : Prop := ∀ W, Q w W → Calls Tryz.prog 67 #[v] W fun e w' => e = .returned (.bool false) ∧ Q W w'
section
variable {v : Value} {w : World}
theorem DeadL.q {w' : World} (D : DeadL v w) (hq : Q w w') : DeadL v w' := fun W h => D W (hq.trans h)
end
end Go.Proofs.YtdaklffbfadghaaGreat

namespace Go.Proofs.YtdaklffbfadghaaGreat
open Go.RowKit HP
set_option linter.unusedVariables false
set_option linter.unusedSimpArgs false
def one (xs : List Int) : List (List Int) := xs.map fun x => [x]
theorem one_len (xs : List Int) : (one xs).length = xs.length := List.length_map _
theorem one_at {xs : List Int} {i : Nat} {x : Int} (h : xs[i]? = some x) : (one xs)[i]? = some [x] := by unfold one; rw [List.getElem?_map, h]; rfl
theorem one_ins (xs : List Int) (i : Nat) (n : Int) : insAt (one xs) i [[n]] = one (insAt xs i [n]) := by
  unfold one
  rw [insAt_map]
theorem one_del (xs : List Int) (i : Nat) : delAt (one xs) i 1 = one (delAt xs i 1) := by
  unfold one
  rw [delAt_map]
theorem fits_bd {v : Int} (h : fitsB v = true) : -9223372036854775808 ≤ v ∧ v ≤ 9223372036854775807 := by
  have := fitsB_iff.1 h
  omega
/-- an open list of numbers -/
structure LstR (m : HM) (r : Rw) (xs : List Int) : Prop where
  inv : Inv m
  kp : Kp m 1 r.ps (one xs)
  n : xs.length = r.n
  op : r.closed = false
  fit : ∀ x ∈ xs, fitsB x = true
theorem LstR.bd {m : HM} {r : Rw} {xs : List Int} (S : LstR m r xs) : BdL (one xs) := fun row hr v hv => by
  obtain ⟨x, hx, rfl⟩ := List.mem_map.1 hr
  rw [List.mem_singleton] at hv
  subst hv
  exact fits_bd (S.fit v hx)
theorem LstR.le {m : HM} {r : Rw} {xs : List Int} (S : LstR m r xs) : r.n ≤ 64 := by
  have := S.kp.len
  rw [one_len, S.n] at this
  exact this
/-- what Insert says -/
def InsO (m m' : HM) (r r2 : Rw) (xs : List Int) (i n err : Int) : Prop :=
  (fitsB n = false ∧ err = 1 ∧ m' = m ∧ r2 = r) ∨ (fitsB n = true ∧ ¬ (0 ≤ i ∧ i ≤ (xs.length : Int)) ∧ err = 4 ∧ m' = m ∧ r2 = r) ∨
  (fitsB n = true ∧ (0 ≤ i ∧ i ≤ (xs.length : Int)) ∧ ∃ ok : Bool, err = (if ok then 0 else 3) ∧ LstR m' r2 (if ok then insAt xs i.toNat [n] else xs) ∧ Insd m m' 1 r.ps r2.ps (one xs) i.toNat [n] ok)
theorem insO_of {m m' : HM} {r r2 : Rw} {xs : List Int} {i : Nat} {n : Int} {ok : Bool} (S : LstR m r xs) (hn : fitsB n = true) (hi : i ≤ xs.length) (hI : Insd m m' 1 r.ps r2.ps (one xs) i [n] ok) (h2n : r2.n = r.n + (if ok then 1 else 0)) (h2c : r2.closed = r.closed) :
    InsO m m' r r2 xs i n (if ok then 0 else 3) := by
  refine .inr (.inr ⟨hn, by omega, ok, rfl, ⟨hI.inv, ?_, ?_, h2c.trans S.op, ?_⟩, hI⟩)
  · have := hI.kp
    cases ok
    · exact this
    · rw [if_pos rfl, one_ins] at this
      exact this
  · rw [h2n, ← S.n]
    cases ok
    · rfl
    · show (insAt xs i [n]).length = _
      rw [insAt_len _ _ _ hi]
      rfl
  · cases ok
    · exact S.fit
    · intro x hx
      have hx : x ∈ insAt xs i [n] := hx
      rcases insAt_mem.1 hx with rfl | hx
      · exact hn
      · exact S.fit x hx
section
variable {h : Hp} {r : Rw} {w : World} {xs : List Int}
set_option maxHeartbeats 4000000 in
set_option maxRecDepth 100000 in
theorem insertL_any (L : LR w h r) (S : LstR h.m r xs) (hc : h.calls < 1000000000) (i n : Int) :
    Calls Tryz.prog 46 #[r.ptr, .int .i64 i, .int .i64 n] w fun e w' => ∃ (err : Int) (m' : HM) (r2 : Rw), e = .returned (.int .i64 err) ∧ LS w h r w' m' r2 ∧ InsO h.m m' r r2 xs i n err ∧ r2.more = r.more := by
  have HX0 : Hid (LB w h r w h.m r []) := LB.start L
  have HOP : Hid (∀ W, Q w W → Calls Tryz.prog 67 #[r.ptr] W fun e w' => e = .returned (.bool true) ∧ Q W w') := fun W hq => by
    have := isOpen_any ((LDid.refl L).q hq).lr
    rw [S.op] at this
    exact this
  have HAN : Hid (∀ W : World, Calls Tryz.prog 89 #[.slice (some ⟨W.heap.size, 0, none⟩) 1 1] (W.alloc (.cells #[.int .i64 n] 3)) fun e w' => e = .returned (.bool (fitsB n)) ∧ Q (W.alloc (.cells #[.int .i64 n] 3)) w') := fun W => by
    have := areNumbers_any (some ⟨W.heap.size, 0, none⟩) 1 1 [n] (W.alloc (.cells #[.int .i64 n] 3)) rfl (.inr ⟨W.heap.size, 0, rfl, by simp, fun j u hu => by
      rw [World.cell?_alloc_new]
      simpa [intsV] using hu⟩) (by decide)
    simpa using this
  have HIN : Hid (∀ W bs (j : Nat), LB w h r W h.m r bs → j ≤ r.n → Calls Tryz.prog 90 #[r.ptr, .int .i64 j, .agg #[.int .i64 n]] W fun e W' => ∃ (ok : Bool) (m' : HM) (r2 : Rw) (er : Int), e = .returned (.int .i64 er) ∧ er = (if ok then 0 else 3) ∧ LB w h r W' m' r2 bs ∧ Insd h.m m' 1 r.ps r2.ps (one xs) j [n] ok ∧ r2.n = r.n + (if ok then 1 else 0) ∧ r2.closed = r.closed ∧ r2.more = r.more) := fun W bs j X hj => (lb_insert1 X S.inv S.kp (by rw [one_len]; exact S.n) hc S.bd j hj n).mono fun e W' ⟨ok, m', r2, he, hg⟩ => ⟨ok, m', r2, _, he, rfl, hg⟩
  have HK2 : Hid (∀ W, LB w h r W h.m r [] → W.cell? ⟨r.blk, 2, none⟩ = some (.int .i64 (xs.length : Int)) ∧ r.blk < W.heap.size) := fun W X => by
    rw [S.n]
    exact ⟨X.ls.k2, X.ls.lt⟩
  have HS := hide S
  have hle := S.le
  rw [← S.n] at hle
  have hrp : r.ptr = .pointer (some ⟨r.blk, 0, none⟩) := rfl
  rw [hrp] at HOP HIN ⊢
  obtain ⟨b, eb⟩ : ∃ b, b = r.blk := ⟨_, rfl⟩
  rw [← eb] at HOP HIN HK2 ⊢
  obtain ⟨len, el⟩ : ∃ len, len = xs.length := ⟨_, rfl⟩
  have HEL := hide el
  rw [← el] at hle HK2
  clear hrp eb S L el
  cases hf : fitsB n
  · have HF := hide hf
    go_enter Tryz.func46, Tryz.ntmps46
    go_wp2_with (first
      | (go_at_call 67; refine (HOP.out _ (Q.refl _)).mono ?_; rintro e w1 ⟨rfl, hq1⟩)
      | (go_at_call 89; refine (HAN.out _).mono ?_; rintro e w2 ⟨rfl, hq2⟩))
    go_ret
    exact ⟨1, h.m, r, rfl, (HX0.out.q (hq1.trans (((Q.refl _).alloc _).trans hq2))).ls, .inl ⟨HF.out, rfl, rfl, rfl⟩, rfl⟩
  · have HF := hide hf
    have HX2 : Hid (∀ w1 w2, Q w w1 → Q (w1.alloc (.cells #[.int .i64 n] 3)) w2 → LB w h r w2 h.m r []) := fun w1 w2 hq1 hq2 => HX0.out.q (hq1.trans (((Q.refl _).alloc _).trans hq2))
    by_cases hi : 0 ≤ i ∧ i ≤ (len : Int)
    · have hd1 : decide (i < 0) = false := by simp; omega
      have hd2 : decide ((len : Int) < i) = false := by simp; omega
      obtain ⟨j, rfl⟩ : ∃ j : Nat, i = (j : Int) := ⟨i.toNat, by omega⟩
      have hj : j ≤ len := by omega
      clear hi
      go_enter Tryz.func46, Tryz.ntmps46
      go_wp2_with (first
        | (go_at_call 67; refine (HOP.out _ (Q.refl _)).mono ?_; rintro e w1 ⟨rfl, hq1⟩)
        | (go_at_call 89; refine (HAN.out _).mono ?_; rintro e w2 ⟨rfl, hq2⟩; obtain ⟨c2, hbl⟩ := HK2.out _ (HX2.out _ _ hq1 hq2))
        | (go_at_call 90; refine (HIN.out _ [] j (HX2.out _ _ hq1 hq2) (by rw [← HS.out.n, ← HEL.out]; exact hj)).mono ?_; rintro e w3 ⟨ok, m', r2, er, rfl, her, hX3, hI, h2n, h2c, h2m⟩; have HER := hide her; clear her; have HX3 := hide hX3; have HI := hide hI; have H2N := hide h2n; have H2C := hide h2c; have H2M := hide h2m; clear hX3 hI h2n h2c h2m))
      go_ret
      refine ⟨er, m', r2, rfl, HX3.out.ls, ?_, H2M.out⟩
      rw [HER.out]
      exact insO_of HS.out HF.out (by rw [← HEL.out]; exact hj) HI.out H2N.out H2C.out
    · have HNI := hide hi
      have hd : decide (i < 0) = true ∨ (decide (i < 0) = false ∧ decide ((len : Int) < i) = true) := by
        by_cases h0 : i < 0
        · exact .inl (by simpa using h0)
        · exact .inr ⟨by simpa using h0, by simp; omega⟩
      clear hi
      rcases hd with hd | ⟨hd, hd2⟩
      · go_enter Tryz.func46, Tryz.ntmps46
        go_wp2_with (first
          | (go_at_call 67; refine (HOP.out _ (Q.refl _)).mono ?_; rintro e w1 ⟨rfl, hq1⟩)
          | (go_at_call 89; refine (HAN.out _).mono ?_; rintro e w2 ⟨rfl, hq2⟩))
        go_ret
        exact ⟨4, h.m, r, rfl, (HX2.out _ _ hq1 hq2).ls, .inr (.inl ⟨HF.out, by rw [← HEL.out]; exact HNI.out, rfl, rfl, rfl⟩), rfl⟩
      · go_enter Tryz.func46, Tryz.ntmps46
        go_wp2_with (first
          | (go_at_call 67; refine (HOP.out _ (Q.refl _)).mono ?_; rintro e w1 ⟨rfl, hq1⟩)
          | (go_at_call 89; refine (HAN.out _).mono ?_; rintro e w2 ⟨rfl, hq2⟩; obtain ⟨c2, hbl⟩ := HK2.out _ (HX2.out _ _ hq1 hq2)))
        go_ret
        exact ⟨4, h.m, r, rfl, (HX2.out _ _ hq1 hq2).ls, .inr (.inl ⟨HF.out, by rw [← HEL.out]; exact HNI.out, rfl, rfl, rfl⟩), rfl⟩
end
end Go.Proofs.YtdaklffbfadghaaGreat

namespace Go.Proofs.YtdaklffbfadghaaGreat
open Go.RowKit HP
set_option linter.unusedVariables false
set_option linter.unusedSimpArgs false
section
variable {h : Hp} {r r1 : Rw} {w W : World} {xs : List Int} {m : HM} {bs : List Loc}
theorem LstR.isOpen (L : LR w h r) (S : LstR h.m r xs) : ∀ W, Q w W → Calls Tryz.prog 67 #[r.ptr] W fun e w' => e = .returned (.bool true) ∧ Q W w' := fun W hq => by
  have := isOpen_any ((LDid.refl L).q hq).lr
  rw [S.op] at this
  exact this
theorem lb_insertL (X : LB w h r W m r1 bs) (S : LstR m r1 xs) (hc : m.calls < 1000000000) (i n : Int) :
    Calls Tryz.prog 46 #[r.ptr, .int .i64 i, .int .i64 n] W fun e W' => ∃ (m2 : HM) (r2 : Rw), LB w h r W' m2 r2 bs ∧ ∃ err, e = .returned (.int .i64 err) ∧ InsO m m2 r1 r2 xs i n err ∧ r2.more = r1.more := by
  have hrb := X.ls.rb
  refine X.call (P := fun e W' m2 r2 => ∃ err, e = .returned (.int .i64 err) ∧ InsO m m2 r1 r2 xs i n err ∧ r2.more = r1.more) fun h1 L e1 e2 e3 => ?_
  have := insertL_any L (xs := xs) (by rw [e1]; exact S) (by rw [e3]; exact hc) i n
  unfold Rw.ptr at this ⊢
  rw [hrb, e1] at this
  refine this.mono ?_
  rintro e W' ⟨err, m', r2, he, hX, hI, hm⟩
  exact ⟨m', r2, hX, err, he, hI, hm⟩
set_option maxHeartbeats 4000000 in
set_option maxRecDepth 100000 in
theorem addL_any (L : LR w h r) (S : LstR h.m r xs) (hc : h.calls < 1000000000) (n : Int) :
    Calls Tryz.prog 17 #[r.ptr, .int .i64 n] w fun e w' => ∃ (m' : HM) (r2 : Rw), LS w h r w' m' r2 ∧ ∃ err, e = .returned (.int .i64 err) ∧ InsO h.m m' r r2 xs xs.length n err ∧ r2.more = r.more := by
  have HX0 : Hid (LB w h r w h.m r []) := LB.start L
  have HOP := hide (S.isOpen L)
  have HIN : Hid (∀ W, LB w h r W h.m r [] → Calls Tryz.prog 46 #[r.ptr, .int .i64 (xs.length : Int), .int .i64 n] W fun e W' => ∃ (m2 : HM) (r2 : Rw), LB w h r W' m2 r2 [] ∧ ∃ err, e = .returned (.int .i64 err) ∧ InsO h.m m2 r r2 xs xs.length n err ∧ r2.more = r.more) := fun W X => lb_insertL X S hc _ n
  have HK2 : Hid (∀ W, LB w h r W h.m r [] → W.cell? ⟨r.blk, 2, none⟩ = some (.int .i64 (xs.length : Int)) ∧ r.blk < W.heap.size) := fun W X => by
    rw [S.n]
    exact ⟨X.ls.k2, X.ls.lt⟩
  have hrp : r.ptr = .pointer (some ⟨r.blk, 0, none⟩) := rfl
  rw [hrp] at HOP HIN ⊢
  obtain ⟨b, eb⟩ : ∃ b, b = r.blk := ⟨_, rfl⟩
  rw [← eb] at HOP HIN HK2 ⊢
  obtain ⟨len, el⟩ : ∃ len, len = xs.length := ⟨_, rfl⟩
  rw [← el] at HK2 HIN ⊢
  clear hrp eb S L el
  go_enter Tryz.func17, Tryz.ntmps17
  go_wp2_with (first
    | (go_at_call 67; refine (HOP.out _ (Q.refl _)).mono ?_; rintro e w1 ⟨rfl, hq1⟩; obtain ⟨c2, hbl⟩ := HK2.out _ (HX0.out.q hq1))
    | (go_at_call 46; refine (HIN.out _ (HX0.out.q hq1)).mono ?_; rintro e w2 ⟨m2, r2, hX2, err, rfl, hI, hm⟩; have HX2 := hide hX2; have HI := hide hI; have HM := hide hm; clear hX2 hI hm))
  go_ret
  exact ⟨m2, r2, HX2.out.ls, err, rfl, HI.out, HM.out⟩
/-- why there is no element at a place -/
def askE (xs : List Int) (i : Int) : Int := if 0 ≤ i ∧ i < (xs.length : Int) then 0 else 4
set_option maxHeartbeats 4000000 in
set_option maxRecDepth 100000 in
theorem askedL_any (L : LR w h r) (S : LstR h.m r xs) (i : Int) :
    Calls Tryz.prog 69 #[r.ptr, .int .i64 i] w fun e w' => e = .returned (.int .i64 (askE xs i)) ∧ Q w w' := by
  have HX0 : Hid (LB w h r w h.m r []) := LB.start L
  have HOP := hide (S.isOpen L)
  have HK2 : Hid (∀ W, LB w h r W h.m r [] → W.cell? ⟨r.blk, 2, none⟩ = some (.int .i64 (xs.length : Int)) ∧ r.blk < W.heap.size) := fun W X => by
    rw [S.n]
    exact ⟨X.ls.k2, X.ls.lt⟩
  have hrp : r.ptr = .pointer (some ⟨r.blk, 0, none⟩) := rfl
  rw [hrp] at HOP ⊢
  obtain ⟨b, eb⟩ : ∃ b, b = r.blk := ⟨_, rfl⟩
  rw [← eb] at HOP HK2 ⊢
  unfold askE
  obtain ⟨len, el⟩ : ∃ len, len = xs.length := ⟨_, rfl⟩
  rw [← el] at HK2 ⊢
  clear hrp eb S L el
  by_cases hi : 0 ≤ i ∧ i < (len : Int)
  · rw [if_pos hi]
    have hd1 : decide (i < 0) = false := by simp; omega
    have hd2 : decide ((len : Int) ≤ i) = false := by simp; omega
    clear hi
    go_enter Tryz.func69, Tryz.ntmps69
    go_wp2_with (go_at_call 67; refine (HOP.out _ (Q.refl _)).mono ?_; rintro e w1 ⟨rfl, hq1⟩; obtain ⟨c2, hbl⟩ := HK2.out _ (HX0.out.q hq1))
    go_ret
    exact ⟨rfl, hq1⟩
  · rw [if_neg hi]
    have hd : decide (i < 0) = true ∨ (decide (i < 0) = false ∧ decide ((len : Int) ≤ i) = true) := by
      by_cases h0 : i < 0
      · exact .inl (by simpa using h0)
      · exact .inr ⟨by simpa using h0, by simp; omega⟩
    clear hi
    rcases hd with hd | ⟨hd, hd2⟩
    · go_enter Tryz.func69, Tryz.ntmps69
      go_wp2_with (go_at_call 67; refine (HOP.out _ (Q.refl _)).mono ?_; rintro e w1 ⟨rfl, hq1⟩)
      go_ret
      exact ⟨rfl, hq1⟩
    · go_enter Tryz.func69, Tryz.ntmps69
      go_wp2_with (go_at_call 67; refine (HOP.out _ (Q.refl _)).mono ?_; rintro e w1 ⟨rfl, hq1⟩; obtain ⟨c2, hbl⟩ := HK2.out _ (HX0.out.q hq1))
      go_ret
      exact ⟨rfl, hq1⟩
theorem LstR.asked (L : LR w h r) (S : LstR h.m r xs) (i : Int) : ∀ W, Q w W → Calls Tryz.prog 69 #[r.ptr, .int .i64 i] W fun e w' => e = .returned (.int .i64 (askE xs i)) ∧ Q W w' := fun W hq => askedL_any ((LDid.refl L).q hq).lr S i
/-- what Remove says -/
def RemO (m m' : HM) (r r2 : Rw) (xs : List Int) (i v err : Int) : Prop :=
  (¬ (0 ≤ i ∧ i < (xs.length : Int)) ∧ v = 0 ∧ err = 4 ∧ m' = m ∧ r2 = r) ∨ ((0 ≤ i ∧ i < (xs.length : Int)) ∧ xs[i.toNat]? = some v ∧ err = 0 ∧ LstR m' r2 (delAt xs i.toNat 1) ∧ Remd m m' 1 r.ps r2.ps (one xs) i.toNat)
theorem remO_of {m m' : HM} {r r2 : Rw} {xs : List Int} {i : Nat} {v : Int} (S : LstR m r xs) (hv : xs[i]? = some v) (R : Remd m m' 1 r.ps r2.ps (one xs) i) (h2n : r2.n + 1 = r.n) (h2c : r2.closed = r.closed) : RemO m m' r r2 xs i v 0 := by
  have hi := (List.getElem?_eq_some_iff.1 hv).1
  refine .inr ⟨by omega, hv, rfl, ⟨R.inv, by rw [Int.toNat_natCast, ← one_del]; exact R.kp, ?_, h2c.trans S.op, fun x hx => S.fit x (delAt_mem hx)⟩, R⟩
  have := S.n
  rw [Int.toNat_natCast, delAt_len _ _ _ (by omega)]
  omega
set_option maxHeartbeats 4000000 in
set_option maxRecDepth 100000 in
theorem removeL_any (L : LR w h r) (S : LstR h.m r xs) (i : Int) :
    Calls Tryz.prog 19 #[r.ptr, .int .i64 i] w fun e w' => ∃ (m' : HM) (r2 : Rw), LS w h r w' m' r2 ∧ ∃ v err, e = .returned (.tuple #[.int .i64 v, .int .i64 err]) ∧ RemO h.m m' r r2 xs i v err ∧ r2.more = r.more := by
  have HX0 : Hid (LB w h r w h.m r []) := LB.start L
  have HAS := hide (S.asked L i)
  have HRM : Hid (∀ W (j : Nat) v, LB w h r W h.m r [] → xs[j]? = some v → Calls Tryz.prog 70 #[r.ptr, .int .i64 j] W fun e W' => e = .returned (.agg #[.int .i64 v]) ∧ ∃ (m' : HM) (r2 : Rw), LB w h r W' m' r2 [] ∧ Remd h.m m' 1 r.ps r2.ps (one xs) j ∧ r2.n + 1 = r.n ∧ r2.closed = r.closed ∧ r2.more = r.more) := fun W j v X hv => lb_remove1 X S.inv S.kp (by rw [one_len]; exact S.n) S.bd j (one_at hv)
  have HS := hide S
  have hrp : r.ptr = .pointer (some ⟨r.blk, 0, none⟩) := rfl
  rw [hrp] at HAS HRM ⊢
  obtain ⟨b, eb⟩ : ∃ b, b = r.blk := ⟨_, rfl⟩
  rw [← eb] at HAS HRM ⊢
  clear hrp eb S L
  by_cases hi : 0 ≤ i ∧ i < (xs.length : Int)
  · rw [show askE xs i = 0 from if_pos hi] at HAS
    obtain ⟨j, rfl⟩ : ∃ j : Nat, i = (j : Int) := ⟨i.toNat, by omega⟩
    obtain ⟨v, hv⟩ : ∃ v, xs[j]? = some v := ⟨xs[j]'(by omega), List.getElem?_eq_getElem _⟩
    have HV := hide hv
    clear hi hv
    have hix : ∀ w', (Instr.index 126 (.agg #[.int .i64 v]) (.int .i64 0)).run Tryz.prog w' = .ok (.int .i64 v) w' := fun w' => run_idx_arr (k := 0) Tryz.underlying126 (by kernel_rfl) (by kernel_rfl) (by decide) rfl w'
    go_enter Tryz.func19, Tryz.ntmps19
    go_wp2_with (first
      | (go_at_call 69; refine (HAS.out _ (Q.refl _)).mono ?_; rintro e w1 ⟨rfl, hq1⟩)
      | (go_at_call 70; refine (HRM.out _ j v (HX0.out.q hq1) HV.out).mono ?_; rintro e w2 ⟨rfl, m2, r2, hX2, hR, h2n, h2c, h2m⟩; have HX2 := hide hX2; have HR := hide hR; have H2N := hide h2n; have H2C := hide h2c; have H2M := hide h2m; clear hX2 hR h2n h2c h2m))
    go_ret2
    exact ⟨m2, r2, HX2.out.ls, v, 0, rfl, remO_of HS.out HV.out HR.out H2N.out H2C.out, H2M.out⟩
  · have HNI := hide hi
    rw [show askE xs i = 4 from if_neg hi] at HAS
    clear hi
    go_enter Tryz.func19, Tryz.ntmps19
    go_wp2_with (go_at_call 69; refine (HAS.out _ (Q.refl _)).mono ?_; rintro e w1 ⟨rfl, hq1⟩)
    go_ret2
    exact ⟨h.m, r, (HX0.out.q hq1).ls, 0, 4, rfl, .inl ⟨HNI.out, rfl, rfl, rfl, rfl⟩, rfl⟩
end
end Go.Proofs.YtdaklffbfadghaaGreat

namespace Go.Proofs.YtdaklffbfadghaaGreat
open Go.RowKit HP
set_option linter.unusedVariables false
set_option linter.unusedSimpArgs false
/-- a row has been written -/
structure Wrtn (m m' : HM) (T : Nat) (ps : List Int) : Prop where
  inv : Inv m'
  fr : Fr m m' ps ps
  calls : m'.calls = m.calls
  failIn : m'.failIn = m.failIn
theorem Wrtn.low {m m' : HM} {T T' d : Nat} {ps : List Int} (W : Wrtn m m' T ps) (h : Low m T' ps d) : Low m' T' ps d := h.same W.fr W.failIn
/-! with a row of the walk's own that grows -/
theorem LDid.apart {W W' : World} {h h' : Hp} {r r' : Rw} (D : LDid W h r W' h' r') {b : Nat} (hb : b < W.heap.size) (h1 : ¬ h.fp b) (h2 : ¬ r.fp b) : W'.heap[b]? = W.heap[b]? ∧ ¬ h'.fp b ∧ ¬ r'.fp b :=
  ⟨D.turn.block b hb fun e => e.elim h1 h2, fun e => (D.hf b e).elim h1 (by omega), fun e => (D.rf b e).elim h2 (by omega)⟩
def LV (w : World) (h : Hp) (r : Rw) (W : World) (m : HM) (r1 : Rw) (v : Value) : Prop := ∃ h1, LDid w h r W h1 r1 ∧ h1.m = m ∧ ∀ g, v.ownBlock = some g → ¬ h1.fp g ∧ ¬ r1.fp g
section
variable {w W W2 : World} {h : Hp} {r r1 : Rw} {m : HM} {v v2 : Value}
theorem LV.ls (X : LV w h r W m r1 v) : LS w h r W m r1 := by
  obtain ⟨h1, D, e, -⟩ := X
  exact ⟨h1, D, e⟩
theorem LV.start (X : LS w h r W m r1) (hv : v.ownBlock = none) : LV w h r W m r1 v := by
  obtain ⟨h1, D, e⟩ := X
  exact ⟨h1, D, e, fun g hg => by rw [hv] at hg; cases hg⟩
theorem LV.q (X : LV w h r W m r1 v) (hq : Q W W2) : LV w h r W2 m r1 v := by
  obtain ⟨h1, D, e, hv⟩ := X
  exact ⟨h1, D.q hq, e, hv⟩
theorem LV.call (X : LV w h r W m r1 v) {B e s n : Nat} {xs : List Value} (hv : W.ownsRow B e s v n xs) {f : FuncId} {args : Array Value} {P : Ending → World → HM → Rw → Prop}
    (hc : ∀ h1, LR W h1 r1 → h1.m = m → h1.ptr = h.ptr → h1.calls = m.calls → Calls Tryz.prog f args W fun e W' => ∃ m2 r2, LS W h1 r1 W' m2 r2 ∧ P e W' m2 r2) :
    Calls Tryz.prog f args W fun en W' => ∃ m2 r2, LV w h r W' m2 r2 v ∧ W'.ownsRow B e s v n xs ∧ P en W' m2 r2 := by
  obtain ⟨h1, D, em, ha⟩ := X
  refine (hc h1 D.lr em (by unfold Hp.ptr; rw [D.hb]) (by rw [← em]; rfl)).mono ?_
  rintro e2 W' ⟨m2, r2, ⟨h2, D2, e3⟩, hP⟩
  have hl : ∀ g, v.ownBlock = some g → g < W.heap.size := fun g hg => (hv.lt g hg).2
  exact ⟨m2, r2, ⟨h2, D.trans D2, e3, fun g hg => (D2.apart (hl g hg) (ha g hg).1 (ha g hg).2).2⟩, own_same hv fun g hg => (D2.apart (hl g hg) (ha g hg).1 (ha g hg).2).1, hP⟩
theorem LV.grown (X : LV w h r W m r1 v) (hg : W.grownBy W2 v.ownBlock) (hb : ∀ g, v.ownBlock = some g → w.heap.size ≤ g) (hn : ∀ g, v2.ownBlock = some g → v.ownBlock = some g ∨ W.heap.size ≤ g) : LV w h r W2 m r1 v2 := by
  obtain ⟨h1, D, e, ha⟩ := X
  have L := D.lr
  have keep : ∀ g, g < W.heap.size → ¬ v.ownBlock = some g → W2.heap[g]? = W.heap[g]? := fun g h1 h2 => hg.block g h1 fun e => h2 e.symm
  have k1 : ∀ g, h1.fp g → W2.heap[g]? = W.heap[g]? := fun g hf => keep g (L.heap.lt g hf) fun e => (ha g e).1 hf
  have k2 : ∀ g, r1.fp g → W2.heap[g]? = W.heap[g]? := fun g hf => keep g (L.rlt g hf) fun e => (ha g e).2 hf
  refine ⟨h1, ⟨⟨L.heap.same k1, L.mu, (k2 _ (.inl rfl)).trans L.cells, own_same L.pcs fun g hg => k2 g (.inr hg), L.ap1, L.ap2⟩, D.hb, D.rb, D.rt, D.turn.grown hg fun k hk hlt => absurd (hb k hk) (by omega), D.hf, D.rf⟩, e, fun g hg2 => ?_⟩
  rcases hn g hg2 with h3 | h3
  · exact ha g h3
  · exact ⟨fun e => by have := L.heap.lt g e; omega, fun e => by have := L.rlt g e; omega⟩
end
section
variable {h : Hp} {r r1 : Rw} {w W : World} {xs : List Int} {m : HM} {bs : List Loc}
set_option maxHeartbeats 4000000 in
set_option maxRecDepth 100000 in
theorem closeL_any (L : LR w h r) (S : LstR h.m r xs) :
    Calls Tryz.prog 31 #[r.ptr] w fun e w' => ∃ (m' : HM) (r2 : Rw), LS w h r w' m' r2 ∧ e = .returned (.int .i64 0) ∧ Clsd h.m m' r.ps ∧ r2.ps = [] ∧ r2.n = 0 ∧ r2.closed = true ∧ r2.more = r.more := by
  have HX0 : Hid (LB w h r w h.m r []) := LB.start L
  have HOP := hide (S.isOpen L)
  have HCL : Hid (∀ W, LB w h r W h.m r [] → Calls Tryz.prog 85 #[r.ptr] W fun e W' => e = .returned (.tuple #[]) ∧ ∃ (m' : HM) (r2 : Rw), LB w h r W' m' r2 [] ∧ Clsd h.m m' r.ps ∧ r2.ps = [] ∧ r2.n = 0 ∧ r2.closed = true ∧ r2.more = r.more) := fun W X => lb_close1 X S.inv S.le (by have := S.kp.pcs; rw [one_len, S.n] at this; exact this)
  have hrp : r.ptr = .pointer (some ⟨r.blk, 0, none⟩) := rfl
  rw [hrp] at HOP HCL ⊢
  obtain ⟨b, eb⟩ : ∃ b, b = r.blk := ⟨_, rfl⟩
  rw [← eb] at HOP HCL ⊢
  clear hrp eb S L
  go_enter Tryz.func31, Tryz.ntmps31
  go_wp2_with (first
    | (go_at_call 67; refine (HOP.out _ (Q.refl _)).mono ?_; rintro e w1 ⟨rfl, hq1⟩)
    | (go_at_call 85; refine (HCL.out _ (HX0.out.q hq1)).mono ?_; rintro e w2 ⟨rfl, m2, r2, hX2, hC⟩; have HX2 := hide hX2; have HC := hide hC; clear hX2 hC))
  go_ret
  exact ⟨m2, r2, HX2.out.ls, rfl, HC.out⟩
set_option maxHeartbeats 4000000 in
set_option maxRecDepth 100000 in
theorem allL_any (L : LR w h r) (S : LstR h.m r xs) :
    Calls Tryz.prog 52 #[r.ptr] w fun e w' => ∃ (m' : HM) (r2 : Rw), LS w h r w' m' r2 ∧ m' = h.m ∧ r2 = r ∧ ∃ v, e = .returned v ∧ w'.ownsRow w.heap.size 3 1 v xs.length (intsV xs) ∧ LV w h r w' h.m r v := by
  have HX0 : Hid (LB w h r w h.m r []) := LB.start L
  have HOP := hide (S.isOpen L)
  have HRM : Hid (∀ W (j : Nat) x v n ys, LV w h r W h.m r v → W.ownsRow w.heap.size 3 1 v n ys → xs[j]? = some x → Calls Tryz.prog 91 #[r.ptr, .int .i64 j] W fun e W' => e = .returned (.agg #[.int .i64 x]) ∧ LV w h r W' h.m r v ∧ W'.ownsRow w.heap.size 3 1 v n ys) := fun W j x v n ys X hown hv => by
    have h1 := (List.getElem?_eq_some_iff.1 hv).1
    have h2 := S.le
    have h3 := S.n
    refine (X.call hown (P := fun e W' m2 r2 => e = .returned (.agg #[.int .i64 x]) ∧ m2 = h.m ∧ r2 = r) fun h1 L1 e1 e2 _ => ?_).mono ?_
    · refine (read1_any L1 (by rw [e1]; exact S.inv) j (by omega) (by rw [e1]; exact S.kp.row j _ (one_at hv)) (S.bd _ (List.mem_of_getElem? (one_at hv)))).mono ?_
      rintro e W' ⟨he, hX⟩
      rw [e1] at hX
      exact ⟨h.m, r, hX, he, rfl, rfl⟩
    · rintro e W' ⟨m2, r2, hX, ho, he, rfl, rfl⟩
      exact ⟨he, hX, ho⟩
  have HK2 : Hid (∀ W, LB w h r W h.m r [] → W.cell? ⟨r.blk, 2, none⟩ = some (.int .i64 (xs.length : Int)) ∧ r.blk < W.heap.size) := fun W X => by
    rw [S.n]
    exact ⟨X.ls.k2, X.ls.lt⟩
  have hle := S.le
  rw [← S.n] at hle
  have hrp : r.ptr = .pointer (some ⟨r.blk, 0, none⟩) := rfl
  rw [hrp] at HOP HRM ⊢
  obtain ⟨b, eb⟩ : ∃ b, b = r.blk := ⟨_, rfl⟩
  rw [← eb] at HOP HRM HK2 ⊢
  obtain ⟨n, en⟩ : ∃ n, n = xs.length := ⟨_, rfl⟩
  have HEN := hide en
  rw [← en] at hle HK2 ⊢
  have hni : (n : Int) ≤ 64 := by omega
  clear hrp eb S L en
  go_enter Tryz.func52, Tryz.ntmps52
  go_wp2_with (go_at_call 67; refine (HOP.out _ (Q.refl _)).mono ?_; rintro e w1 ⟨rfl, hq1⟩; obtain ⟨c2, hbl⟩ := HK2.out _ (HX0.out.q hq1))
  go_loopw [3, 13] (fun v vi wr => ∃ k : Nat, k ≤ n ∧ vi = .int .i64 (k : Int) ∧ wr.ownsRow w.heap.size 3 1 v k (intsV (xs.take k)) ∧ w.heap.size ≤ wr.heap.size ∧ LV w h r wr h.m r v) (fun _ vi _ => n - (intOf vi).toNat)
  case atStart => exact ⟨0, by omega, by go_num, World.ownsRow_nil _ _ _ _, hq1.size, LV.start (HX0.out.q hq1).ls rfl⟩
  case round =>
    obtain ⟨k, hk, rfl, hown, hsz, hX⟩ := hrel
    have HX := hide hX
    clear hX
    by_cases hlt : k < n
    · have hd1 : decide ((k : Int) < (n : Int)) = true := by simp; omega
      have hd0 : decide (k < n) = true := by simp; omega
      have hlti : (k : Int) < (n : Int) := by omega
      obtain ⟨x, hx⟩ : ∃ x, xs[k]? = some x := ⟨xs[k]'(by rw [← HEN.out]; exact hlt), List.getElem?_eq_getElem _⟩
      have HXK := hide hx
      have HT : Hid (intsV (xs.take (k + 1)) = intsV (xs.take k) ++ [.int .i64 x]) := by
        obtain ⟨h1, h2⟩ := List.getElem?_eq_some_iff.1 hx
        unfold intsV
        rw [List.take_succ_eq_append_getElem h1, h2, List.map_append]
        rfl
      have hix : ∀ w', (Instr.index 126 (.agg #[.int .i64 x]) (.int .i64 0)).run Tryz.prog w' = .ok (.int .i64 x) w' := fun w' => run_idx_arr (k := 0) Tryz.underlying126 (by kernel_rfl) (by kernel_rfl) (by decide) rfl w'
      obtain ⟨A, c, ev, -⟩ := own_form hown
      subst ev
      have HOWN := hide hown
      clear hx hown
      go_wp2_with (first
        | (go_at_call 91; refine (HRM.out _ k x _ _ _ HX.out HOWN.out HXK.out).mono ?_; rintro e w3 ⟨rfl, hX3, hown3⟩; have HX3 := hide hX3; have hs3 := hX3.ls; clear hX3)
        | (at_builtin; go_loud (refine wpList_app1b rfl El_int _ _ rfl rfl hown3 rfl rfl rfl ?_ ?_ ?_ ?_; (focus (simp [Value.oneCell'])); (focus omega); (focus (obtain ⟨h9, D9, -⟩ := hs3; exact D9.turn.size)); intro v1 w7 hown7 hg7 hn7)))
      go_roundw
      case rel =>
        have hb9 : ∀ g, Value.ownBlock (.slice A k c) = some g → w.heap.size ≤ g := fun g hg => (hown3.lt g hg).1
        refine ⟨k + 1, by omega, by go_num, by rw [HT.out]; exact hown7, ?_, HX3.out.grown hg7 hb9 hn7⟩
        obtain ⟨h9, D9, -⟩ := hs3
        exact Nat.le_trans D9.turn.size hg7.size
      case measure => simp [intOf] <;> omega
    · have hd1 : decide ((k : Int) < (n : Int)) = false := by simp; omega
      have hd0 : decide (k < n) = false := by simp; omega
      obtain rfl : k = n := by omega
      have HOWN := hide hown
      clear hown
      go_wp2_with fail
      go_ret
      have ho := HOWN.out
      rw [List.take_of_length_le (by rw [HEN.out]; exact Nat.le_refl _)] at ho
      exact ⟨h.m, r, HX.out.ls, rfl, rfl, _, rfl, ho, HX.out⟩
end
end Go.Proofs.YtdaklffbfadghaaGreat
