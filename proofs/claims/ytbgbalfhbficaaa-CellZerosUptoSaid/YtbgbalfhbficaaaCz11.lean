/- Long of chapter 06's laws. Find of both. The law CellFinds: its walk. Which bytes may belong to a layout: plain. Whether bytes belong to a layout, of both: plain. behind, hasByte, isScalar, own, hasOwn of the reference. Conditions: as each theorem says. -/
import Derived.Test.YtbgbalfhbficaaaCz10
namespace Go.Proofs.Ytbgbalfhbficaaa
set_option maxRecDepth 100000
set_option maxHeartbeats 2000000
open Go.RowKit
set_option linter.unusedVariables false
set_option linter.unusedSimpArgs false
theorem cel_enc (c : Cel) : ∃ n x y A len cap, c.v = .agg #[.int .i64 n, .bool x, .bool y, .slice A len cap] ∧ encC c = [.int .i64 n, .bool x, .bool y, .slice A len cap] := by cases c; exact ⟨_, _, _, _, _, _, rfl, rfl⟩
theorem Long_any {w : World} {l : Lay} (h : LayR w l) (hcnt : l.count ≤ 1048576) {c : Cel} (hc : CelR w c) (B : Option Addr) (n9 c9 : Nat) : ∀ W, Q w W → Calls Try.prog 9 #[l.v, c.v, .slice B n9 c9] W (fun e w' => ∃ r, e = .returned (.bool r) ∧ (r = false → l.count ≤ 200 ∧ n9 ≤ 6000) ∧ Q W w') := by
 intro W hqW
 obtain ⟨k, n, f, A, len, cap, hlv, hle⟩ := enc_v l
 obtain ⟨cn, cx, cy, cA, cl, cc, hcv, hce⟩ := cel_enc c
 rw [hlv, hcv]
 obtain ⟨w2, hw2⟩ : ∃ w2, (W.alloc (.cells #[.int .i64 k, .int .i64 n, .bool f, .slice A len cap] 24)).alloc (.cells #[.int .i64 cn, .bool cx, .bool cy, .slice cA cl cc] 31) = w2 := ⟨_, rfl⟩
 obtain ⟨hq2, hs2, hd, he⟩ := box2 hw2
 have h0 : W.heap.size < w2.heap.size := by omega
 have h1 : W.heap.size + 1 < w2.heap.size := by omega
 have k0 := hd 0 _ rfl
 have k1 := hd 1 _ rfl
 have k2 := hd 2 _ rfl
 have k3 := hd 3 _ rfl
 have KC := hide fun X (hX : Q w2 X) => (cs4 hX h1 he : Cs4 X (W.heap.size + 1) (.int .i64 cn) (.bool cx) (.bool cy) (.slice cA cl cc))
 have HLY := hide (Layouts_any h hcnt w2 (hqW.trans hq2))
 have HCC := hide (fun W' (hW : Q w W') => Count_any hc W' hW)
 rw [hlv] at HLY
 rw [hcv] at HCC
 have HW2 := hide hw2
 have HQ2 := hide hq2
 have HWQ := hide (hqW.trans hq2)
 obtain ⟨m, hm⟩ : ∃ m, l.count = m := ⟨_, rfl⟩
 rw [hm] at HLY ⊢
 clear h hc hlv hcv hle hce hw2 hd he hq2 hqW hm hcnt
 go_enter Try.func9, Try.ntmps9
 go_upto_region 1 with fail
 rw [HW2.out]
 go_wp2_with fail
 refine HLY.out.mono ?_
 rintro e w3 ⟨g, c3, rfl, -, hq3⟩
 have HQ3 := hide hq3
 clear hq3 k0 k1 k2 k3
 by_cases h200 : 200 < m
 ·have d1 : decide ((200 : Int) < (m : Int)) = true := by simp; omega
  clear h200
  go_wp2_with fail
  go_ret
  exact ⟨true, rfl, (fun h => nomatch h), HQ2.out.trans HQ3.out⟩
 ·have d1 : decide ((200 : Int) < (m : Int)) = false := by simp; omega
  have H200 := hide h200
  clear h200
  obtain ⟨t0, t1, t2, t3⟩ := KC.out w3 HQ3.out
  go_wp2_with fail
  refine (HCC.out w3 (HWQ.out.trans HQ3.out)).mono ?_
  rintro e w4 ⟨⟨n4, rfl⟩, hq4⟩
  have HQ4 := hide (HQ3.out.trans hq4)
  clear hq4 t0 t1 t2 t3
  cases hn4 : decide (6000 < n4) with
  | true =>
   go_wp2_with fail
   go_ret
   exact ⟨true, rfl, (fun h => nomatch h), HQ2.out.trans HQ4.out⟩
  | false =>
   by_cases h6 : 6000 < n9
   ·have d6 : decide ((6000 : Int) < (n9 : Int)) = true := by simp; omega
    clear h6
    go_wp2_with fail
    go_ret
    exact ⟨true, rfl, (fun h => nomatch h), HQ2.out.trans HQ4.out⟩
   ·have d6 : decide ((6000 : Int) < (n9 : Int)) = false := by simp; omega
    have H6 := hide h6
    clear h6
    go_wp2_with fail
    go_ret
    exact ⟨false, rfl, fun _ => ⟨by have := H200.out; omega, by have := H6.out; omega⟩, HQ2.out.trans HQ4.out⟩
abbrev celNo : Cel := .mk 0 false false none 0 0 []
theorem celNo_R (w : World) : CelR w celNo := .mk rfl (Sl.nil w) (fun _ => ⟨rfl, rfl⟩) (by decide) (fun p h => by cases h)
def orTo (acc : List Bool) (a : Nat) (o : List Bool) (m : Nat) : List Bool := (List.range m).foldl (fun acc k => acc.set (a + k) (acc.getD (a + k) false || o.getD k false)) acc
def orAt (acc : List Bool) (a : Nat) (o : List Bool) : List Bool := orTo acc a o o.length
theorem orTo_succ (acc : List Bool) (a : Nat) (o : List Bool) (m : Nat) : orTo acc a o (m + 1) = (orTo acc a o m).set (a + m) ((orTo acc a o m).getD (a + m) false || o.getD m false) := by
 unfold orTo
 rw [List.range_succ, List.foldl_append]
 rfl
theorem len_orTo (acc : List Bool) (a : Nat) (o : List Bool) : ∀ m, (orTo acc a o m).length = acc.length
 | 0 => rfl
 | m + 1 => by rw [orTo_succ, List.length_set, len_orTo acc a o m]
theorem len_orAt (acc : List Bool) (a : Nat) (o : List Bool) : (orAt acc a o).length = acc.length := len_orTo ..
theorem any_getD {l : List Bool} : l.any id = true ↔ ∃ i, l.getD i false = true := by
 rw [List.any_eq_true]
 constructor
 ·rintro ⟨x, hx, e⟩
  obtain ⟨i, hi⟩ := List.getElem?_of_mem hx
  exact ⟨i, by rw [List.getD_eq_getElem?_getD, hi]; exact e⟩
 ·rintro ⟨i, e⟩
  rw [List.getD_eq_getElem?_getD] at e
  cases hx : l[i]? with
  | none => rw [hx] at e; cases e
  | some x =>
   rw [hx] at e
   exact ⟨x, List.mem_of_getElem? hx, e⟩
theorem getD_set (l : List Bool) (i j : Nat) (v : Bool) : (l.set i v).getD j false = if i = j ∧ i < l.length then v else l.getD j false := by
 rw [List.getD_eq_getElem?_getD, List.getD_eq_getElem?_getD, List.getElem?_set]
 by_cases h : i = j
 ·subst h
  by_cases h2 : i < l.length
  ·simp [h2]
  ·simp [h2]
 ·simp [h]
theorem orTo_get (acc : List Bool) (a : Nat) (o : List Bool) (i : Nat) : ∀ m, (orTo acc a o m).getD i false = (acc.getD i false || (decide (i < acc.length) && (decide (a ≤ i) && (decide (i < a + m) && o.getD (i - a) false))))
 | 0 => by
  have : ¬ (a ≤ i ∧ i < a + 0) := by omega
  show acc.getD i false = _
  by_cases h : a ≤ i
  ·have h2 : decide (i < a + 0) = false := by rw [decide_eq_false_iff_not]; omega
   rw [h2]
   simp
  ·simp [h]
 | m + 1 => by
  rw [orTo_succ, getD_set, len_orTo, orTo_get acc a o i m, orTo_get acc a o (a + m) m]
  by_cases h : a + m = i
  ·subst h
   by_cases h2 : a + m < acc.length
   ·rw [if_pos ⟨rfl, h2⟩]
    simp [h2]
   ·rw [if_neg (fun h => h2 h.2)]
    simp [h2]
  ·rw [if_neg (fun h2 => h h2.1)]
   have e : decide (i < a + (m + 1)) = decide (i < a + m) ∨ ¬ a ≤ i := by
    by_cases h3 : a ≤ i
    ·left
     rw [decide_eq_decide]
     omega
    ·exact .inr h3
   rcases e with e | e
   ·rw [e]
   ·simp [e]
theorem orAt_get (acc : List Bool) (a : Nat) (o : List Bool) (i : Nat) : (orAt acc a o).getD i false = (acc.getD i false || (decide (i < acc.length) && (decide (a ≤ i) && (decide (i < a + o.length) && o.getD (i - a) false)))) := orTo_get acc a o i _
theorem getD_lt {l : List Bool} {i : Nat} (h : l.getD i false = true) : i < l.length := by
 rw [List.getD_eq_getElem?_getD] at h
 cases hx : l[i]? with
 | none => rw [hx] at h; cases h
 | some x => exact (List.getElem?_eq_some_iff.1 hx).1
theorem any_orAt {acc : List Bool} {a : Nat} {o : List Bool} (h : a + o.length ≤ acc.length) : (orAt acc a o).any id = (acc.any id || o.any id) := by
 rw [Bool.eq_iff_iff, Bool.or_eq_true, any_getD, any_getD, any_getD]
 constructor
 ·rintro ⟨i, e⟩
  rw [orAt_get, Bool.or_eq_true] at e
  rcases e with e | e
  ·exact .inl ⟨i, e⟩
  ·simp only [Bool.and_eq_true] at e
   exact .inr ⟨_, e.2.2.2⟩
 ·rintro (⟨i, e⟩ | ⟨i, e⟩)
  ·exact ⟨i, by rw [orAt_get, e]; rfl⟩
  ·have := getD_lt e
   refine ⟨a + i, ?_⟩
   rw [orAt_get, show a + i - a = i by omega, e]
   have h1 : a + i < acc.length := by omega
   simp [h1, this]
theorem any_orAt_of {acc : List Bool} {a : Nat} {o : List Bool} (h : acc.any id = true) : (orAt acc a o).any id = true := by
 obtain ⟨i, e⟩ := any_getD.1 h
 exact any_getD.2 ⟨i, by rw [orAt_get, e]; rfl⟩
theorem fold_len {α : Type} (f : α → Nat) (o : α → List Bool) : ∀ (js : List α) (acc : List Bool), (js.foldl (fun acc j => orAt acc (f j) (o j)) acc).length = acc.length
 | [], acc => rfl
 | j :: r, acc => by rw [List.foldl_cons, fold_len f o r, len_orAt]
theorem fold_any {α : Type} (f : α → Nat) (o : α → List Bool) : ∀ (js : List α) (acc : List Bool), (∀ j ∈ js, f j + (o j).length ≤ acc.length) → (js.foldl (fun acc j => orAt acc (f j) (o j)) acc).any id = (acc.any id || js.any fun j => (o j).any id)
 | [], acc, _ => by simp
 | j :: r, acc, h => by
  rw [List.foldl_cons, fold_any f o r _ (fun x hx => by rw [len_orAt]; exact h x (List.mem_cons_of_mem _ hx)), any_orAt (h j (List.mem_cons_self ..)), List.any_cons, Bool.or_assoc]
theorem fold_any_of {α : Type} (f : α → Nat) (o : α → List Bool) : ∀ (js : List α) (acc : List Bool), acc.any id = true → (js.foldl (fun acc j => orAt acc (f j) (o j)) acc).any id = true
 | [], acc, h => h
 | j :: r, acc, h => by rw [List.foldl_cons]; exact fold_any_of f o r _ (any_orAt_of h)
def behL (wd : Int) (l : Lay) : Int := (l.parts.map (szL wd)).foldl max 0
def isSc (k : Int) : Bool := decide (k = 1) || decide (k = 2) || decide (k = 3) || decide (k = 7) || decide (k = 9)
def ownB (wd : Int) (l : Lay) : List Bool := if l.k = 4 ∨ l.k = 8 then (List.replicate (szL wd l).toNat false).set (behL wd l).toNat true else List.replicate (szL wd l).toNat false
def ownC (wd : Int) (l : Lay) (os : List (List Bool)) : List Bool := if isSc l.k = true then List.replicate (szL wd l).toNat true else (List.range (numP l)).foldl (fun acc j => orAt acc (atL wd l j).toNat (os.getD (if l.k = 5 then 0 else j) [])) (ownB wd l)
def Lay.own (wd : Int) : Lay → List Bool
 | .mk k n f A len cap ps => ownC wd (.mk k n f A len cap ps) (ps.attach.map fun p => Lay.own wd p.1)
termination_by c => SizeOf.sizeOf c
decreasing_by
 have := List.sizeOf_lt_of_mem p.2
 simp
 omega
theorem own_mk' (wd k n : Int) (f : Bool) (A : Option Addr) (len cap : Nat) (ps : List Lay) : (Lay.mk k n f A len cap ps).own wd = ownC wd (.mk k n f A len cap ps) (ps.map (Lay.own wd)) := by
 rw [Lay.own, attach_map']
theorem len_ownB (wd : Int) (l : Lay) : (ownB wd l).length = (szL wd l).toNat := by
 unfold ownB
 split <;> simp
theorem len_own (wd : Int) (l : Lay) : (l.own wd).length = (szL wd l).toNat := by
 cases l with
 | mk k n f A len cap ps =>
  rw [own_mk']
  unfold ownC
  split
  ·simp
  ·rw [fold_len, len_ownB]
def hasC (wd : Int) (l : Lay) (os : List Bool) : Bool := if l.k = 6 then os.any id else if l.k = 5 then decide (0 < l.n) && os.headD false else if l.k = 4 ∨ l.k = 8 then true else decide (0 < szL wd l)
def Lay.hasB (wd : Int) : Lay → Bool
 | .mk k n f A len cap ps => hasC wd (.mk k n f A len cap ps) (ps.attach.map fun p => Lay.hasB wd p.1)
termination_by c => SizeOf.sizeOf c
decreasing_by
 have := List.sizeOf_lt_of_mem p.2
 simp
 omega
theorem hasB_mk (wd k n : Int) (f : Bool) (A : Option Addr) (len cap : Nat) (ps : List Lay) : (Lay.mk k n f A len cap ps).hasB wd = hasC wd (.mk k n f A len cap ps) (ps.map (Lay.hasB wd)) := by
 rw [Lay.hasB, attach_map']
theorem foldl_maxI : ∀ (l : List Int) (a : Int), a ≤ l.foldl max a ∧ (∀ x ∈ l, x ≤ l.foldl max a) ∧ ∀ b, a ≤ b → (∀ x ∈ l, x ≤ b) → l.foldl max a ≤ b
 | [], a => ⟨Int.le_refl _, (fun x h => by simp at h), (fun b h _ => h)⟩
 | y :: r, a => by
  obtain ⟨h1, h2, h3⟩ := foldl_maxI r (max a y)
  rw [List.foldl_cons]
  refine ⟨by omega, fun x hx => ?_, fun b hb hx => h3 b (by have := hx y (List.mem_cons_self ..); omega) (fun x hx' => hx x (List.mem_cons_of_mem _ hx'))⟩
  rcases List.mem_cons.1 hx with rfl | hx
  ·omega
  ·exact h2 x hx
theorem beh_nn (wd : Int) (l : Lay) : 0 ≤ behL wd l := (foldl_maxI _ _).1
theorem at_fits {w : World} {l : Lay} {wd : Int} (h : LayR w l) (ho : Okw wd l) {j : Nat} (hs : stE l (j : Int) = 0) : 0 ≤ atL wd l j ∧ 0 ≤ szL wd (subL l j) ∧ atL wd l j + szL wd (subL l j) ≤ szL wd l := by
 obtain ⟨j', e, hm, h1, h2⟩ := sub_mem ho hs
 obtain rfl : j = j' := by omega
 have hbd := stA_bd h ho (j : Int)
 have ea : stA wd l (j : Int) = atL wd l j := by unfold stA; rw [if_pos hs, Int.toNat_natCast]
 rw [ea] at hbd
 have hlp := lay_part h hm
 have hk := (stE_ok hs).1
 have hop : Okw wd (subL l j) := ho.part h hm (fun h5 => by have := (h2 h5).2; omega) (by omega)
 have hsz := (szL_bd hlp wd).1
 refine ⟨hbd.1, hsz, ?_⟩
 clear hbd ea
 rw [ho.sz]
 have hszp := hop.sz
 obtain ⟨p, hp⟩ : ∃ p, subL l j = p := ⟨_, rfl⟩
 rw [hp] at hm h1 h2 hlp hop hsz hszp ⊢
 have hvl := ho.vl
 have hfr := fr_valid h ho.valid
 have hcap : ∀ q ∈ l.parts, isA (q.room wd).2 ∧ 0 ≤ (q.room wd).1 := fun q hq => by
  have := fr_cap (lay_part h hq) (hvl.part hq) (hfr.part hq) wd ho.word
  exact ⟨this.1, this.2.1⟩
 have hone := fun h45 : l.k = 4 ∨ l.k = 5 => numP_one ho h45
 cases l with
 | mk k n f A len cap ps =>
  have hm' : p ∈ ps := hm
  have hr := List.mem_map_of_mem (f := Lay.room wd) hm'
  have hcap' : ∀ r ∈ ps.map (Lay.room wd), isA r.2 ∧ 0 ≤ r.1 := fun r hr => by
   obtain ⟨q, hq, rfl⟩ := List.mem_map.1 hr
   exact hcap q hq
  rw [room_mk]
  have hk' : k = 4 ∨ k = 5 ∨ k = 6 ∨ k = 8 := hk
  have h12 : k = 4 ∨ k = 5 → (ps.map (Lay.room wd)).headD (0, 1) = p.room wd := fun h45 => by
   obtain ⟨q, hq⟩ : ∃ q, ps = [q] := List.length_eq_one_iff.1 (hone h45)
   subst hq
   rw [List.mem_singleton] at hm'
   subst hm'
   rfl
  have hpA := hcap p hm
  unfold roomR atL
  rw [hp, hszp]
  rcases hk' with rfl | rfl | rfl | rfl
  ·rw [if_neg (show ¬ (Lay.mk 4 n f A len cap ps).k = 5 from (by decide : ¬ (4 : Int) = 5)), if_neg (show ¬ (Lay.mk 4 n f A len cap ps).k = 6 from (by decide : ¬ (4 : Int) = 6)), if_neg (by decide), if_neg (by decide), if_neg (by decide), if_pos rfl, h12 (.inl rfl)]
   have := hpA.1.up (n := (p.room wd).1 + 1) (by omega)
   dsimp only
   omega
  ·rw [if_pos (show (Lay.mk 5 n f A len cap ps).k = 5 from rfl), if_neg (by decide), if_neg (by decide), if_neg (by decide), if_neg (by decide), if_pos rfl, h12 (.inr rfl)]
   have hj : (j : Int) < n := (h2 rfl).2
   have h3 := Int.mul_le_mul_of_nonneg_right (show (j : Int) + 1 ≤ n by omega) hpA.2
   rw [Int.add_mul, Int.one_mul] at h3
   exact h3
  ·rw [if_neg (show ¬ (Lay.mk 6 n f A len cap ps).k = 5 from (by decide : ¬ (6 : Int) = 5)), if_pos (show (Lay.mk 6 n f A len cap ps).k = 6 from rfl), if_neg (by decide), if_neg (by decide), if_neg (by decide), if_neg (by decide), if_neg (by decide), if_pos rfl]
   have hg : ps[j]? = some p := h1 (show ¬ (6 : Int) = 5 by decide)
   have hrj : (ps.map (Lay.room wd))[j]? = some (p.room wd) := by rw [List.getElem?_map, hg]; rfl
   have hst := stand_mono (ps.map (Lay.room wd)) (0, 1) hcap' isA.one (by simp)
   have hup := hst.2.1.up hst.2.2
   have hpre := stand_pre (C := (standR (ps.map (Lay.room wd))).1) hcap' (Int.le_refl _) (j + 1)
   rw [stand_succ hrj] at hpre
   unfold stepS at hpre
   show upI (standR ((ps.map (Lay.room wd)).take j)).1 (((ps.map (Lay.room wd))[j]?).getD (0, 1)).2 + (p.room wd).1 ≤ upI (standR (ps.map (Lay.room wd))).1 (standR (ps.map (Lay.room wd))).2
   rw [hrj]
   dsimp only [Option.getD_some] at hpre ⊢
   have hup1 : (standR (ps.map (Lay.room wd))).1 ≤ upI (standR (ps.map (Lay.room wd))).1 (standR (ps.map (Lay.room wd))).2 := hup.1
   omega
  ·rw [if_neg (show ¬ (Lay.mk 8 n f A len cap ps).k = 5 from (by decide : ¬ (8 : Int) = 5)), if_neg (show ¬ (Lay.mk 8 n f A len cap ps).k = 6 from (by decide : ¬ (8 : Int) = 6)), if_neg (by decide), if_neg (by decide), if_neg (by decide), if_neg (by decide), if_neg (by decide), if_neg (by decide), if_neg (by decide), if_pos rfl]
   have h3 := union_part (ps.map (Lay.room wd)) (0, 1) _ hr
   have h4 : isA ((ps.map (Lay.room wd)).foldl stepU (0, 1)).2 := by
    have : ∀ (rs : List Rm) (s : Rm), (∀ r ∈ rs, isA r.2 ∧ 0 ≤ r.1) → isA s.2 → isA (rs.foldl stepU s).2 := by
     intro rs
     induction rs with
     | nil => intro s _ h; exact h
     | cons a r ih => intro s h1 h2; exact ih _ (fun x hx => h1 x (List.mem_cons_of_mem _ hx)) (h2.max (h1 a (List.mem_cons_self ..)).1)
    exact this _ _ hcap' isA.one
   have h5 := h4.up (n := ((ps.map (Lay.room wd)).foldl stepU (0, 1)).1 + 1) (by omega)
   dsimp only
   omega
theorem beh_fits {w : World} {l : Lay} {wd : Int} (h : LayR w l) (ho : Okw wd l) (hk : l.k = 4 ∨ l.k = 8) : behL wd l + 1 ≤ szL wd l := by
 have hvl := ho.vl
 have hfr := fr_valid h ho.valid
 have hok : ∀ q ∈ l.parts, szL wd q = (q.room wd).1 ∧ isA (q.room wd).2 ∧ 0 ≤ (q.room wd).1 := fun q hq => by
  have h1 := fr_cap (lay_part h hq) (hvl.part hq) (hfr.part hq) wd ho.word
  exact ⟨(ho.part h hq (by omega) (by omega)).sz, h1.1, h1.2.1⟩
 rw [ho.sz]
 have key : (∀ q ∈ l.parts, szL wd q + 1 ≤ (l.room wd).1) ∧ 1 ≤ (l.room wd).1 := by
  cases l with
  | mk k n f A len cap ps =>
   have hok' : ∀ q ∈ ps, szL wd q = (q.room wd).1 ∧ isA (q.room wd).2 ∧ 0 ≤ (q.room wd).1 := hok
   rw [room_mk]
   have hnum := hvl.kind.2.2.1
   unfold numL at hnum
   have hk' : k = 4 ∨ k = 8 := hk
   unfold roomR
   rcases hk' with rfl | rfl
   ·rw [if_pos (.inl rfl), decide_eq_true_eq, List.length_eq_one_iff] at hnum
    obtain ⟨p, rfl⟩ := hnum
    obtain ⟨x1, x2, x3⟩ := hok' p (List.mem_cons_self ..)
    have := x2.up (n := (p.room wd).1 + 1) (by omega)
    rw [if_neg (by decide), if_neg (by decide), if_neg (by decide), if_pos rfl]
    refine ⟨fun q hq => ?_, ?_⟩
    ·have hq' : q ∈ [p] := hq
     rw [List.mem_singleton] at hq'
     subst hq'
     rw [x1]
     exact this.1
    ·show 1 ≤ upI ((p.room wd).1 + 1) (p.room wd).2
     omega
   ·have hcap' : ∀ r ∈ ps.map (Lay.room wd), isA r.2 ∧ 0 ≤ r.1 := fun r hr => by
     obtain ⟨q, hq, rfl⟩ := List.mem_map.1 hr
     exact (hok' q hq).2
    have h4 : ∀ (rs : List Rm) (s : Rm), (∀ r ∈ rs, isA r.2 ∧ 0 ≤ r.1) → isA s.2 → 0 ≤ s.1 → isA (rs.foldl stepU s).2 ∧ 0 ≤ (rs.foldl stepU s).1 := by
     intro rs
     induction rs with
     | nil => intro s _ h h2; exact ⟨h, h2⟩
     | cons a r ih => intro s h1 h2 h3; exact ih _ (fun x hx => h1 x (List.mem_cons_of_mem _ hx)) (h2.max (h1 a (List.mem_cons_self ..)).1) (by have := (h1 a (List.mem_cons_self ..)).2; unfold stepU; dsimp only; omega)
    obtain ⟨y1, y2⟩ := h4 _ (0, 1) hcap' isA.one (by simp)
    have h5 := y1.up (n := ((ps.map (Lay.room wd)).foldl stepU (0, 1)).1 + 1) (by omega)
    rw [if_neg (by decide), if_neg (by decide), if_neg (by decide), if_neg (by decide), if_neg (by decide), if_neg (by decide), if_neg (by decide), if_pos rfl]
    refine ⟨fun q hq => ?_, ?_⟩
    ·have hq' : q ∈ ps := hq
     rw [(hok' q hq').1]
     have h3 := union_part (ps.map (Lay.room wd)) (0, 1) _ (List.mem_map_of_mem (f := Lay.room wd) hq')
     dsimp only
     omega
    ·dsimp only
     omega
 have := (foldl_maxI (l.parts.map (szL wd)) 0).2.2 ((l.room wd).1 - 1) (by omega) (fun x hx => by
  obtain ⟨q, hq, rfl⟩ := List.mem_map.1 hx
  have := key.1 q hq
  omega)
 unfold behL
 omega
theorem any_rep_true (n : Nat) : (List.replicate n true).any id = decide (0 < n) := by
 cases n <;> simp [List.replicate_succ]
theorem any_rep_false (n : Nat) : (List.replicate n false).any id = false := by
 induction n with
 | zero => rfl
 | succ n ih => rw [List.replicate_succ, List.any_cons, ih]; rfl
theorem ownC_sc {wd : Int} {l : Lay} {os : List (List Bool)} (h : isSc l.k = true) : ownC wd l os = List.replicate (szL wd l).toNat true := by unfold ownC; rw [if_pos h]
theorem ownC_no {wd : Int} {l : Lay} {os : List (List Bool)} (h : ¬ isSc l.k = true) : ownC wd l os = (List.range (numP l)).foldl (fun acc j => orAt acc (atL wd l j).toNat (os.getD (if l.k = 5 then 0 else j) [])) (ownB wd l) := by unfold ownC; rw [if_neg h]
theorem hasC_6 {wd : Int} {l : Lay} {os : List Bool} (h : l.k = 6) : hasC wd l os = os.any id := by unfold hasC; rw [if_pos h]
theorem hasC_5 {wd : Int} {l : Lay} {os : List Bool} (h : l.k = 5) : hasC wd l os = (decide (0 < l.n) && os.headD false) := by unfold hasC; rw [if_neg (by omega), if_pos h]
theorem hasC_48 {wd : Int} {l : Lay} {os : List Bool} (h : l.k = 4 ∨ l.k = 8) : hasC wd l os = true := by unfold hasC; rw [if_neg (by omega), if_neg (by omega), if_pos h]
theorem hasC_no {wd : Int} {l : Lay} {os : List Bool} (h : ¬ (l.k = 4 ∨ l.k = 5 ∨ l.k = 6 ∨ l.k = 8)) : hasC wd l os = decide (0 < szL wd l) := by unfold hasC; rw [if_neg (by omega), if_neg (by omega), if_neg (by omega)]
theorem numP_no {l : Lay} (h : ¬ (l.k = 4 ∨ l.k = 5 ∨ l.k = 6 ∨ l.k = 8)) : numP l = 0 := by unfold numP; rw [if_neg (by omega), if_neg (by omega), if_neg (by omega)]
theorem numP_5 {l : Lay} (h : l.k = 5) : numP l = l.n.toNat := by unfold numP; rw [if_neg (by omega), if_pos h]
theorem numP_68 {l : Lay} (h : l.k = 6 ∨ l.k = 8) : numP l = l.parts.length := by unfold numP; rw [if_neg (by omega), if_neg (by omega), if_pos h]
theorem own_any {w : World} {l : Lay} {wd : Int} (h : LayR w l) : Okw wd l → (l.own wd).any id = l.hasB wd := by
 induction h with
 | @mk k n f A len cap ps a1 a2 a3 a4 a5 a6 ih =>
  intro ho
  have hl : LayR w (.mk k n f A len cap ps) := .mk a1 a2 a3 a4 a5 a6
  have hvl := ho.vl
  obtain ⟨hk0, hk9, hnum, hrest⟩ := hvl.kind
  have hopart : ∀ p ∈ ps, (k = 5 → 0 < n) → k ≠ 9 → Okw wd p := fun p hp h5 h9 => ho.part hl hp h5 h9
  have hfit : ∀ j, j < numP (.mk k n f A len cap ps) → (k = 4 ∨ k = 5 ∨ k = 6 ∨ k = 8) → (atL wd (.mk k n f A len cap ps) j).toNat + ((((ps.map (Lay.own wd)).getD (if k = 5 then 0 else j) [])).length) ≤ (ownB wd (.mk k n f A len cap ps)).length := fun j hj hk => by
   have hs : stE (.mk k n f A len cap ps) (j : Int) = 0 := by
    unfold stE
    rw [if_pos (show (Lay.mk k n f A len cap ps).k = 4 ∨ (Lay.mk k n f A len cap ps).k = 5 ∨ (Lay.mk k n f A len cap ps).k = 6 ∨ (Lay.mk k n f A len cap ps).k = 8 from hk), if_neg (by omega)]
   obtain ⟨x1, x2, x3⟩ := at_fits hl ho hs
   rw [len_ownB]
   have : ((ps.map (Lay.own wd)).getD (if k = 5 then 0 else j) []).length ≤ (szL wd (subL (.mk k n f A len cap ps) j)).toNat := by
    rw [List.getD_eq_getElem?_getD, List.getElem?_map]
    by_cases h5 : k = 5
    ·rw [if_pos h5]
     have e : subL (.mk k n f A len cap ps) j = (ps[0]?).getD noL := by unfold subL; rw [if_pos (show (Lay.mk k n f A len cap ps).k = 5 from h5)]; rfl
     rw [e]
     cases ps[0]? with
     | none => exact Nat.zero_le _
     | some p => exact Nat.le_of_eq (len_own wd p)
    ·rw [if_neg h5]
     have e : subL (.mk k n f A len cap ps) j = (ps[j]?).getD noL := by unfold subL; rw [if_neg (show ¬ (Lay.mk k n f A len cap ps).k = 5 from h5)]; rfl
     rw [e]
     cases ps[j]? with
     | none => exact Nat.zero_le _
     | some p => exact Nat.le_of_eq (len_own wd p)
   omega
  rw [own_mk', hasB_mk]
  have ek : (Lay.mk k n f A len cap ps).k = k := rfl
  have en : (Lay.mk k n f A len cap ps).n = n := rfl
  have hsz := szL_bd hl wd
  by_cases hsc : isSc k = true
  ·rw [ownC_sc (l := .mk k n f A len cap ps) hsc, any_rep_true]
   have hk : k = 1 ∨ k = 2 ∨ k = 3 ∨ k = 7 ∨ k = 9 := by unfold isSc at hsc; simpa [or_assoc] using hsc
   rw [hasC_no (by rw [ek]; omega)]
   rw [decide_eq_decide]
   omega
  ·rw [ownC_no (l := .mk k n f A len cap ps) hsc, ek]
   have hk : k = 0 ∨ k = 4 ∨ k = 5 ∨ k = 6 ∨ k = 8 := by
    unfold isSc at hsc
    simp at hsc
    omega
   by_cases h48 : k = 4 ∨ k = 8
   ·rw [hasC_48 (by rw [ek]; exact h48)]
    refine fold_any_of _ _ _ _ (any_getD.2 ⟨(behL wd (.mk k n f A len cap ps)).toNat, ?_⟩)
    have hb := beh_fits hl ho h48
    have hn := beh_nn wd (.mk k n f A len cap ps)
    unfold ownB
    rw [if_pos (show (Lay.mk k n f A len cap ps).k = 4 ∨ (Lay.mk k n f A len cap ps).k = 8 from h48), List.getD_eq_getElem?_getD, List.getElem?_set_self (by rw [List.length_replicate]; omega)]
    rfl
   ·have hbase : (ownB wd (.mk k n f A len cap ps)).any id = false := by
     unfold ownB
     rw [if_neg (show ¬ ((Lay.mk k n f A len cap ps).k = 4 ∨ (Lay.mk k n f A len cap ps).k = 8) from h48)]
     exact any_rep_false _
    by_cases h0 : k = 0
    ·have hnp : numP (.mk k n f A len cap ps) = 0 := numP_no (by rw [ek]; omega)
     rw [hnp, hasC_no (by rw [ek]; omega), List.range_zero, List.foldl_nil, hbase]
     have hz : szL wd (.mk k n f A len cap ps) = 0 := by
      rw [ho.sz, room_mk]
      unfold roomR
      rw [if_neg (by omega), if_neg (by omega), if_neg (by omega), if_neg (by omega), if_neg (by omega), if_neg (by omega), if_neg (by omega), if_neg (by omega), if_neg (by omega)]
     rw [hz]
     rfl
    ·have h56 : k = 5 ∨ k = 6 := by omega
     rw [fold_any _ _ _ _ (fun j hj => hfit j (List.mem_range.1 hj) (by omega)), hbase, Bool.false_or]
     by_cases h5 : k = 5
     ·subst h5
      rw [hasC_5 rfl, en]
      have hnp : numP (.mk 5 n f A len cap ps) = n.toNat := numP_5 rfl
      unfold numL at hnum
      rw [if_pos (.inr rfl), decide_eq_true_eq, List.length_eq_one_iff] at hnum
      obtain ⟨p, rfl⟩ := hnum
      rw [hnp]
      simp only [if_true, List.map_cons, List.map_nil, List.getD_cons_zero, List.headD_cons]
      by_cases hn0 : 0 < n
      ·rw [ih p (by simp) (hopart p (by simp) (fun _ => hn0) (by decide))]
       have hd : decide (0 < n) = true := by simp [hn0]
       rw [hd, Bool.true_and]
       cases hB : p.hasB wd with
       | true =>
        rw [List.any_eq_true]
        exact ⟨0, List.mem_range.2 (by omega), rfl⟩
       | false => simp
      ·rw [show n.toNat = 0 by omega]
       simp [hn0]
     ·have h6 : k = 6 := by omega
      subst h6
      rw [hasC_6 rfl]
      have hnp : numP (.mk 6 n f A len cap ps) = ps.length := numP_68 (.inl rfl)
      rw [hnp, Bool.eq_iff_iff, List.any_eq_true, List.any_eq_true]
      constructor
      ·rintro ⟨j, hj, e⟩
       rw [List.mem_range] at hj
       have hp := List.getElem?_eq_getElem hj
       rw [if_neg (by decide), List.getD_eq_getElem?_getD, List.getElem?_map, hp] at e
       have hm := List.getElem_mem hj
       refine ⟨(ps[j]).hasB wd, List.mem_map_of_mem (f := Lay.hasB wd) hm, ?_⟩
       rw [← ih _ hm (hopart _ hm (by omega) (by decide))]
       exact e
      ·rintro ⟨x, hx, e⟩
       obtain ⟨p, hp, rfl⟩ := List.mem_map.1 hx
       obtain ⟨j, hj⟩ := List.getElem?_of_mem hp
       refine ⟨j, List.mem_range.2 (List.getElem?_eq_some_iff.1 hj).1, ?_⟩
       rw [if_neg (by decide), List.getD_eq_getElem?_getD, List.getElem?_map, hj]
       show ((Option.some p).map (Lay.own wd)).getD [] |>.any id
       rw [Option.map_some, Option.getD_some, ih p hp (hopart p hp (by omega) (by decide))]
       exact e
theorem foldmax_snoc (ls : List Int) (x : Int) : (ls ++ [x]).foldl max 0 = max (ls.foldl max 0) x := by rw [List.foldl_append]; rfl
theorem foldmax_bd (ls : List Int) (h : ∀ x ∈ ls, 0 ≤ x ∧ x ≤ 4096) : 0 ≤ ls.foldl max 0 ∧ ls.foldl max 0 ≤ 4096 := ⟨(foldl_maxI ls 0).1, (foldl_maxI ls 0).2.2 4096 (by decide) (fun x hx => (h x hx).2)⟩
theorem rbehind_any {w : World} {l : Lay} (h : LayR w l) (hc : l.count ≤ 1048576) (wd : Int) (b : Bool) : ∀ W, Q w W → Calls Try.prog 135 #[l.v, tgW wd b] W (R1 W (.int .i64 (behL wd l))) := by
 intro W hqW
 unfold R1
 obtain ⟨k, n, f, A, len, cap, hlv⟩ : ∃ k n f A len cap, l.v = .agg #[.int .i64 k, .int .i64 n, .bool f, .slice A len cap] := by cases l; exact ⟨_, _, _, _, _, _, rfl⟩
 have HLV := hide hlv
 rw [hlv]
 clear hlv
 obtain ⟨w2, hw2⟩ : ∃ w2, (W.alloc (.cells #[.int .i64 k, .int .i64 n, .bool f, .slice A len cap] 24)).alloc (.cells #[.int .i64 wd, .bool b] 26) = w2 := ⟨_, rfl⟩
 obtain ⟨hq2, hs2, hc2, hd2⟩ := box2 hw2
 have hb0 : W.heap.size < w2.heap.size := by omega
 have hb1 : W.heap.size + 1 < w2.heap.size := by omega
 have KA := hide fun X (hX : Q w2 X) => (cs42 hX hb0 hc2 hb1 hd2 : Cs42 X W.heap.size (.int .i64 k) (.int .i64 n) (.bool f) (.slice A len cap) (W.heap.size + 1) (.int .i64 wd) (.bool b))
 have HW2 := hide hw2
 have HWQ := hide (hqW.trans hq2)
 have HQ2 := hide hq2
 have H := hide h
 clear h hw2 hq2 hqW hc2 hd2
 have HKL : Hid (l.k = k ∧ l.n = n) := hide (by cases l; injection HLV.out with e; simp at e; exact ⟨e.1, e.2.1⟩)
 have HSL : Hid (Sl 4 encL w A len cap l.parts) := hide (by
  cases H.out with
  | mk a1 a2 a3 a4 a5 a6 =>
   injection HLV.out with e
   simp at e
   obtain ⟨e1, e2, e3, e4, e5, e6⟩ := e
   subst e1 e2 e3 e4 e5 e6
   exact a3)
 have HAL : Hid (∀ p ∈ l.parts, LayR w p ∧ p.count ≤ 1048576) := hide (fun p hp => ⟨(by cases H.out with | mk a1 a2 a3 a4 a5 a6 => exact a6 p hp), by have := count_part hp; omega⟩)
 have HLN := hide HSL.out.len
 have hlb : (len : Int) ≤ 140737488351232 := by
  cases H.out with
  | mk a1 a2 a3 a4 a5 a6 =>
   injection HLV.out with e
   simp at e
   obtain ⟨e1, e2, e3, e4, e5, e6⟩ := e
   omega
 have Q22 := hide (Q.refl w2)
 obtain ⟨k0, k1, k2, k3, t0, t1⟩ := KA.out w2 Q22.out
 go_enter Try.func135, Try.ntmps135
 go_upto_region 1 with fail
 rw [HW2.out]
 go_wp2_with fail
 clear k0 k1 k2 k3 t0 t1
 go_loopw [5, 6] (fun v5 vi wr => ∃ j : Nat, j ≤ len ∧ v5 = .int .i64 (((l.parts.take j).map (szL wd)).foldl max 0) ∧ vi = .int .i64 j ∧ Q w2 wr) (fun _ vi _ => len - (intOf vi).toNat)
 case atStart => exact ⟨0, by omega, by go_num, by go_num, Q.refl _⟩
 case round =>
  obtain ⟨j, hj, rfl, rfl, hq⟩ := hrel
  have HQ := hide hq
  have k3 := (KA.out wr hq).2.2.2.1
  have hbd5 := foldmax_bd ((l.parts.take j).map (szL wd)) (fun x hx => by
   obtain ⟨p, hp, rfl⟩ := List.mem_map.1 hx
   exact szL_bd (HAL.out p (List.mem_of_mem_take hp)).1 wd)
  obtain ⟨m5, hm5⟩ : ∃ m, ((l.parts.take j).map (szL wd)).foldl max 0 = m := ⟨_, rfl⟩
  rw [hm5] at hbd5 ⊢
  by_cases hlt9 : j < len
  ·have hd1 : decide ((j : Int) < (len : Int)) = true := by simp; omega
   have hd0 : decide (j < len) = true := by simp; omega
   have hlti : (j : Int) < (len : Int) := by omega
   obtain ⟨g, o, m', x', y', B, l', d', qs, e, hb, hx, z0, z1, z2, z3⟩ := lay_at (HSL.out.up (HWQ.out.trans hq)) hlt9
   cases e
   obtain ⟨p, hpe⟩ : ∃ p, Lay.mk m' x' y' B l' d' qs = p := ⟨_, rfl⟩
   have hpv : p.v = .agg #[.int .i64 m', .int .i64 x', .bool y', .slice B l' d'] := by rw [← hpe]; rfl
   have hpe4 : encL p = [.int .i64 m', .int .i64 x', .bool y', .slice B l' d'] := by rw [← hpe]; rfl
   rw [hpe] at hx
   have hpm := List.mem_of_getElem? hx
   have HC := hide (fun W' hW' => rsize_any (HAL.out p hpm).1 (HAL.out p hpm).2 wd b W' hW')
   obtain ⟨sz, hsz⟩ : ∃ sz, szL wd p = sz := ⟨_, rfl⟩
   rw [hpv, hsz] at HC
   unfold R1 at HC
   have HNX : Hid (((l.parts.take (j + 1)).map (szL wd)).foldl max 0 = max m5 sz) := hide (by rw [List.take_add_one, hx, List.map_append, Option.toList_some, List.map_cons, List.map_nil, foldmax_snoc, hm5, hsz])
   have HLT := hide hlt9
   have KP : Hid (∀ X, Q wr X → X.cell? ⟨g, o + j * 4, none⟩ = some (.int .i64 m') ∧ X.cell? ⟨g, o + j * 4 + 1, none⟩ = some (.int .i64 x') ∧ X.cell? ⟨g, o + j * 4 + 2, none⟩ = some (.bool y') ∧ X.cell? ⟨g, o + j * 4 + 3, none⟩ = some (.slice B l' d')) := hide fun X hX => ⟨(hX.facts.1 _ _ hb).trans z0, (hX.facts.1 _ _ hb).trans z1, (hX.facts.1 _ _ hb).trans z2, (hX.facts.1 _ _ hb).trans z3⟩
   clear hx hpe hpv hpe4 hq hsz hpm hm5 z0 z1 z2 z3 hb
   go_upto_region 5 with fail
   clear k3
   refine Ri.made (Ri.phi [Ri.isV (.int .i64 m5), Ri.isV (.pointer (some ⟨W.heap.size, 3, none⟩)), Ri.isV (.slice (some ⟨g, o, none⟩) len cap), Ri.isV (.int .i64 ((j : Nat) : Int)), Ri.isV (.pointer (some ⟨g, o + j * 4, none⟩)), Ri.isV (.agg #[.int .i64 m', .int .i64 x', .bool y', .slice B l' d']), Ri.isV (tgW wd b), Ri.isV (.int .i64 sz), Ri.isV (.int .i64 (max m5 sz)), Ri.isV (.int .i64 (max m5 sz))]) (by kernel_rfl) (by kernel_rfl) (Ri.phi_mono ?_) ?_ ?_
   ·repeat' first | exact trivial | exact fun _ _ _ h _ => h | refine ⟨?_, ?_⟩
   ·refine Ri.All.cons ?_ (.cons ?_ (.cons ?_ (.cons ?_ (.cons ?_ (.cons ?_ (.cons ?_ (.cons ?_ (.cons ?_ (.cons ?_ (Ri.All.nil))))))))))
    ·refine ⟨rfl, fun f9 W9 hq hf Ac hA hB hO => ?_⟩
     have e1 := (hA 5 9).trans ((hO 9).trans (show _ = .int .i64 m5 by simp [Ri.old]))
     exact Ri.wp_value _ (Ri.run_mv rfl e1) rfl
    ·refine ⟨rfl, fun f9 W9 hq hf Ac hA hB hO => ?_⟩
     have e1 := (hB 2).trans (show _ = .pointer (some ⟨W.heap.size, 0, none⟩) by simp [Act.eval])
     exact Ri.wp_value _ (Ri.run_fld (f := _) rfl e1 Try.underlying24 rfl (sz := 0) (by kernel_rfl)) rfl
    ·refine ⟨rfl, fun f9 W9 hq hf Ac hA hB hO => ?_⟩
     have e1 := (hA 15 1).trans (hf 1)
     exact Ri.wp_value _ (Ri.run_ld1 rfl e1 Try.underlying22 rfl ((KA.out W9 (HQ.out.trans ((Q.refl wr).drew.trans hq))).2.2.2.1)) rfl
    ·refine ⟨rfl, fun f9 W9 hq hf Ac hA hB hO => ?_⟩
     have e1 := (hB 6).trans (show _ = .int .i64 (j : Nat) by simp [Act.eval])
     exact Ri.wp_value _ (Ri.run_mv rfl e1) rfl
    ·refine ⟨rfl, fun f9 W9 hq hf Ac hA hB hO => ?_⟩
     have e1 := (hA 16 2).trans (hf 2)
     have e2 := (hA 17 3).trans (hf 3)
     exact Ri.wp_value _ (Ri.run_idx rfl e1 e2 Try.underlying22 (sz := 4) (by kernel_rfl) HLT.out) rfl
    ·refine ⟨rfl, fun f9 W9 hq hf Ac hA hB hO => ?_⟩
     have e1 := (hA 18 4).trans (hf 4)
     obtain ⟨b0, b1, b2, b3⟩ := KP.out W9 ((Q.refl wr).drew.trans hq)
     exact Ri.wp_value _ (Ri.run_ldagg rfl e1 (c4G b0 b1 b2 b3) Try.underlying24 rfl (by kernel_rfl)) rfl
    ·refine ⟨rfl, fun f9 W9 hq hf Ac hA hB hO => ?_⟩
     have e1 := (hB 3).trans (show _ = .pointer (some ⟨W.heap.size + 1, 0, none⟩) by simp [Act.eval])
     obtain ⟨-, -, -, -, u0, u1⟩ := KA.out W9 (HQ.out.trans ((Q.refl wr).drew.trans hq))
     exact Ri.wp_value _ (Ri.run_ldagg (cs := [.int .i64 wd, .bool b]) rfl e1 (c2L u0 u1) Try.underlying26 rfl (by kernel_rfl)) rfl
    ·refine ⟨rfl, fun f9 W9 hq hf Ac hA hB hO => ?_⟩
     have e1 := (hA 19 5).trans (hf 5)
     have e2 := (hA 20 6).trans (hf 6)
     refine Ri.wp_call #[.agg #[.int .i64 m', .int .i64 x', .bool y', .slice B l' d'], tgW wd b] rfl (by simp [e1, e2]) Try.func125 (by kernel_rfl) (by kernel_rfl) ((HC.out W9 (HWQ.out.trans (HQ.out.trans ((Q.refl wr).drew.trans hq)))).mono ?_)
     rintro e w9 ⟨rfl, h1⟩
     exact ⟨_, rfl, h1, rfl⟩
    ·refine ⟨rfl, fun f9 W9 hq hf Ac hA hB hO => ?_⟩
     have e1 := (hA 14 0).trans (hf 0)
     have e2 := (hA 21 7).trans (hf 7)
     exact Ri.wp_value _ (Ri.run_maxi rfl e1 e2) rfl
    ·refine ⟨rfl, fun f9 W9 hq hf Ac hA hB hO => ?_⟩
     have e1 := (hA 22 8).trans (hf 8)
     exact Ri.wp_value _ (Ri.run_asg rfl e1) rfl
   ·intro f9 w8 hq8 hf
    have hl9 := hf 9 (by simp)
    simp only [Ri.phi, List.getD_cons_zero, List.getD_cons_succ, Ri.isV] at hl9
    simp only [Ri.acts, Act.put, List.setIfInBounds_toArray, List.set_cons_zero, List.set_cons_succ, Nat.zero_add, Nat.reduceAdd]
    rw [hl9]
    have HQ8 := hide (HQ.out.trans hq8)
    clear hf hl9 hq8
    go_wp2_with fail
    go_roundw
    case rel => exact ⟨j + 1, by omega, by rw [HNX.out], by go_num, HQ8.out⟩
    case measure => simp [intOf] <;> omega
  ·have hd1 : decide ((j : Int) < (len : Int)) = false := by simp; omega
   have hd0 : decide (j < len) = false := by simp; omega
   obtain rfl : j = len := by omega
   have HB : Hid (behL wd l = m5) := hide (by
    unfold behL
    rw [← hm5, ← HLN.out, List.take_length])
   clear hq hm5
   go_wp2_with fail
   go_ret
   exact ⟨by rw [HB.out] <;> rfl, HQ2.out.trans HQ.out⟩
def hbK (k : Int) : Bool := decide (k = 4) || decide (k = 8)
theorem hasByte_any (k n : Int) (f : Bool) (A : Option Addr) (len cap : Nat) (W : World) : Calls Try.prog 134 #[.agg #[.int .i64 k, .int .i64 n, .bool f, .slice A len cap]] W (R1 W (.bool (hbK k))) := by
 unfold R1
 obtain ⟨w1, hw1⟩ : ∃ w1, W.alloc (.cells #[.int .i64 k, .int .i64 n, .bool f, .slice A len cap] 24) = w1 := ⟨_, rfl⟩
 obtain ⟨hq1, hs1, hc⟩ := box1 hw1
 have k0 : w1.cell? ⟨W.heap.size, 0, none⟩ = some (.int .i64 k) := hc 0 _ rfl
 have HW1 := hide hw1
 have HQ1 := hide hq1
 clear hw1 hc hq1
 by_cases h4 : k = 4
 ·have d4 : (k == 4) = true := by simp [h4]
  have RES : Hid (hbK k = true) := hide (by unfold hbK; simp [h4])
  clear h4
  go_enter Try.func134, Try.ntmps134
  go_upto_region 1 with fail
  rw [HW1.out]
  go_wp2_with fail
  go_ret
  exact ⟨by rw [RES.out] <;> rfl, HQ1.out⟩
 ·have d4 : (k == 4) = false := by simp [h4]
  obtain ⟨r8, h8⟩ : ∃ r8, (k == 8) = r8 := ⟨_, rfl⟩
  have RES : Hid (hbK k = r8) := hide (by unfold hbK; rw [← h8]; simp [h4]; rfl)
  clear h4
  go_enter Try.func134, Try.ntmps134
  go_upto_region 1 with fail
  rw [HW1.out]
  go_wp2_with fail
  go_ret
  exact ⟨by rw [RES.out] <;> rfl, HQ1.out⟩
theorem isScalar_any (k n : Int) (f : Bool) (A : Option Addr) (len cap : Nat) (W : World) : Calls Try.prog 133 #[.agg #[.int .i64 k, .int .i64 n, .bool f, .slice A len cap]] W (R1 W (.bool (isSc k))) := by
 unfold R1
 obtain ⟨w1, hw1⟩ : ∃ w1, W.alloc (.cells #[.int .i64 k, .int .i64 n, .bool f, .slice A len cap] 24) = w1 := ⟨_, rfl⟩
 obtain ⟨hq1, hs1, hc⟩ := box1 hw1
 have k0 : w1.cell? ⟨W.heap.size, 0, none⟩ = some (.int .i64 k) := hc 0 _ rfl
 have HW1 := hide hw1
 have HQ1 := hide hq1
 clear hw1 hc hq1
 by_cases h1 : k = 1
 ·have d1 : (k == 1) = true := by simp [h1]
  have RES : Hid (isSc k = true) := hide (by unfold isSc; simp [h1])
  clear h1
  go_enter Try.func133, Try.ntmps133
  go_upto_region 1 with fail
  rw [HW1.out]
  go_wp2_with fail
  go_ret
  exact ⟨by rw [RES.out] <;> rfl, HQ1.out⟩
 have d1 : (k == 1) = false := by simp [h1]
 by_cases h2 : k = 2
 ·have d2 : (k == 2) = true := by simp [h2]
  have RES : Hid (isSc k = true) := hide (by unfold isSc; simp [h2])
  clear h2
  go_enter Try.func133, Try.ntmps133
  go_upto_region 1 with fail
  rw [HW1.out]
  go_wp2_with fail
  go_ret
  exact ⟨by rw [RES.out] <;> rfl, HQ1.out⟩
 have d2 : (k == 2) = false := by simp [h2]
 by_cases h3 : k = 3
 ·have d3 : (k == 3) = true := by simp [h3]
  have RES : Hid (isSc k = true) := hide (by unfold isSc; simp [h3])
  clear h3
  go_enter Try.func133, Try.ntmps133
  go_upto_region 1 with fail
  rw [HW1.out]
  go_wp2_with fail
  go_ret
  exact ⟨by rw [RES.out] <;> rfl, HQ1.out⟩
 have d3 : (k == 3) = false := by simp [h3]
 by_cases h7 : k = 7
 ·have d7 : (k == 7) = true := by simp [h7]
  have RES : Hid (isSc k = true) := hide (by unfold isSc; simp [h7])
  clear h7
  go_enter Try.func133, Try.ntmps133
  go_upto_region 1 with fail
  rw [HW1.out]
  go_wp2_with fail
  go_ret
  exact ⟨by rw [RES.out] <;> rfl, HQ1.out⟩
 have d7 : (k == 7) = false := by simp [h7]
 by_cases h9 : k = 9
 ·have d9 : (k == 9) = true := by simp [h9]
  have RES : Hid (isSc k = true) := hide (by unfold isSc; simp [h9])
  clear h9
  go_enter Try.func133, Try.ntmps133
  go_upto_region 1 with fail
  rw [HW1.out]
  go_wp2_with fail
  go_ret
  exact ⟨by rw [RES.out] <;> rfl, HQ1.out⟩
 have d9 : (k == 9) = false := by simp [h9]
 have RES : Hid (isSc k = false) := hide (by unfold isSc; simp [h1, h2, h3, h7, h9])
 clear h1 h2 h3 h7 h9
 go_enter Try.func133, Try.ntmps133
 go_upto_region 1 with fail
 rw [HW1.out]
 go_wp2_with fail
 go_ret
 exact ⟨by rw [RES.out] <;> rfl, HQ1.out⟩
def boolA (bs : List Bool) : Array Value := (bs.map Value.bool).toArray
theorem boolA_get {bs : List Bool} {i : Nat} (h : i < bs.length) : (boolA bs)[i]? = some (.bool (bs.getD i false)) := by
 unfold boolA
 rw [List.getElem?_toArray, List.getElem?_map, List.getD_eq_getElem?_getD, List.getElem?_eq_getElem h]
 rfl
theorem boolA_set (bs : List Bool) (i : Nat) (v : Bool) : (boolA bs).setIfInBounds i (.bool v) = boolA (bs.set i v) := by
 unfold boolA
 rw [List.setIfInBounds_toArray, List.map_set]
theorem set_boolA {w : World} {g i : Nat} {bs : List Bool} (h : w.heap[g]? = some (.cells (boolA bs) 4 (0, 0))) (v : Bool) : w.setCell ⟨g, i, none⟩ (.bool v) = w.setRow g (boolA (bs.set i v)) := by
 rw [setCell_eq_setRow w g i _ _ _ _ h, boolA_set]
def OwnP (W : World) (o : List Bool) (e : Ending) (w' : World) : Prop := ∃ g, e = .returned (.slice (some ⟨g, 0, none⟩) o.length o.length) ∧ W.heap.size ≤ g ∧ w'.heap[g]? = some (.cells (boolA o) 4 (0, 0)) ∧ Q W w'
theorem rows_get (wd : Int) (l : Lay) {m j i : Nat} (hj : j < m) (hi : i < 5) : (rowsP wd l m)[j * 5 + i]? = (plcC wd l j)[i]? := by
 unfold rowsP
 exact flatMap_get (fun x => by unfold plcC; simp [len_encL]) _ j i j (List.getElem?_range hj) hi
theorem rep_set (N j : Nat) (h : j < N) : (List.replicate j true ++ List.replicate (N - j) false).set j true = List.replicate (j + 1) true ++ List.replicate (N - (j + 1)) false := by
 rw [List.set_append_right _ _ (by simp), List.length_replicate, Nat.sub_self]
 obtain ⟨t, ht⟩ : ∃ t, N - j = t + 1 := ⟨N - j - 1, by omega⟩
 rw [ht, List.replicate_succ, List.set_cons_zero, show N - (j + 1) = t by omega, List.replicate_succ', List.append_assoc]
 rfl
namespace Ri
theorem wp_store1 {P : Program} {R : Exit → Act → World → Prop} {o : Oper} {A : Act} {w : World} {ty : TypeId} {x y : Operand} {b off : Nat} {v u : Value} {K : Act → World → Prop} (ho : o.op = .store ty x y) (hx : A.eval x = .pointer (some ⟨b, off, none⟩)) (hy : A.eval y = v) (hsz : (P.info? ty).map (·.size) = some 1) (h1 : v.cells = #[v]) (h2 : v.oneCell' = true) (hc : w.cell? ⟨b, off, none⟩ = some u) (hz : w.frozen? ⟨b, off, none⟩ = false) (hK : K (A.put o.dst undef) (w.setCell ⟨b, off, none⟩ v)) :
  o.wp P A w K R := by
 have hst : (store ⟨b, off, none⟩ v).run P w = .ok () (w.setCell ⟨b, off, none⟩ v) := by
  rw [run_store P w _ v _ h2, hc]
  simp [hz]
 have e : (execOp A.eval o).run P w = .ok .skip (w.setCell ⟨b, off, none⟩ v) := by
  unfold execOp
  obtain ⟨i, hi, hs⟩ := Option.map_eq_some_iff.1 hsz
  simp [ho, hx, hy, Instr.storeAt, Instr.sureAddr, storeVar, h1, storeCells, hst, Sem.run_bind, sizeOf, typeInfo, hi, hs, Addr.add]
 unfold Oper.wp
 rw [e]
 exact hK
end Ri
def ownTo (wd : Int) (l : Lay) (j : Nat) : List Bool := (List.range j).foldl (fun acc i => orAt acc (atL wd l i).toNat ((subL l i).own wd)) (ownB wd l)
theorem ownTo_succ (wd : Int) (l : Lay) (j : Nat) : ownTo wd l (j + 1) = orAt (ownTo wd l j) (atL wd l j).toNat ((subL l j).own wd) := by
 unfold ownTo
 rw [List.range_succ, List.foldl_append]
 rfl
theorem len_ownTo (wd : Int) (l : Lay) (j : Nat) : (ownTo wd l j).length = (szL wd l).toNat := by
 unfold ownTo
 rw [fold_len, len_ownB]
theorem foldl_eq_of {α β : Type} {f g : β → α → β} : ∀ (xs : List α) (b : β), (∀ x ∈ xs, ∀ b, f b x = g b x) → xs.foldl f b = xs.foldl g b
 | [], b, _ => rfl
 | x :: r, b, h => by rw [List.foldl_cons, List.foldl_cons, h x (List.mem_cons_self ..), foldl_eq_of r _ fun y hy => h y (List.mem_cons_of_mem _ hy)]
theorem own_all {w : World} {l : Lay} {wd : Int} (h : LayR w l) (ho : Okw wd l) (hs : isSc l.k = false) : l.own wd = ownTo wd l (numP l) := by
 have hsub : ∀ j, j < numP l → l.parts[if l.k = 5 then 0 else j]? = some (subL l j) := fun j hj => by
  by_cases hk : l.k = 4 ∨ l.k = 5 ∨ l.k = 6 ∨ l.k = 8
  ·obtain ⟨j', e, -, h1, h2⟩ := sub_mem ho (n := (j : Int)) (by unfold stE; rw [if_pos hk, if_neg (by omega)])
   obtain rfl : j = j' := by omega
   by_cases h5 : l.k = 5
   ·rw [if_pos h5]; exact (h2 h5).1
   ·rw [if_neg h5]; exact h1 h5
  ·exfalso
   unfold numP at hj
   rw [if_neg (by omega), if_neg (by omega), if_neg (by omega)] at hj
   omega
 cases l with
 | mk k n f A len cap ps =>
  rw [own_mk']
  unfold ownC
  rw [if_neg (by rw [hs]; decide)]
  unfold ownTo
  refine foldl_eq_of _ _ fun j hj b => ?_
  have h1 : ps[if k = 5 then 0 else j]? = some (subL (.mk k n f A len cap ps) j) := hsub j (List.mem_range.1 hj)
  have : (ps.map (Lay.own wd)).getD (if (Lay.mk k n f A len cap ps).k = 5 then 0 else j) [] = (subL (.mk k n f A len cap ps) j).own wd := by
   rw [List.getD_eq_getElem?_getD, List.getElem?_map]
   show ((ps[if k = 5 then 0 else j]?).map (Lay.own wd)).getD [] = _
   rw [h1]
   rfl
  rw [this]
end Go.Proofs.Ytbgbalfhbficaaa
