/- TopMemory: what stands between its acts. TopMemory: how it begins. TopMemory: two calls in one statement, what is taken over, how it ends. Small words for TopMemory's walk. Conditions: as each theorem says. -/
import Derived.Test.YtdaklffbfadghaaGreatTm14
import Derived.Test.YtdaklffbfadghaaGreatTm11
namespace Go.Proofs.YtdaklffbfadghaaGreat
open Go.RowKit HP
set_option linter.unusedVariables false
set_option linter.unusedSimpArgs false
theorem turn_setRow (W : World) (ab : Nat) (cs : Array Value) : Turn (fun b => b = ab) W (W.setRow ab cs) := ⟨rfl, rfl, rfl, by simp, fun i hi hn => setRow_other W ab i cs hn⟩
/-- a new one and the old one, whose box takes the new one's rows when f is true -/
def iLa (B db ab : Nat) (uL vL : Value) (ya : List Int) (f : Bool) : Itm := ⟨fun b => b = db ∨ uL.ownBlock = some b ∨ b = ab ∨ vL.ownBlock = some b,
  fun W => W.heap[db]? = some (.cells #[uL] 47 (0, 0)) ∧ W.ownsRow B 3 1 uL ya.length (intsV ya) ∧ W.heap[ab]? = some (.cells #[if f then uL else vL] 47 (0, 0)),
  fun W1 W2 h k => ⟨(k _ (.inl rfl)).trans h.1, own_same h.2.1 fun g hg => k g (.inr (.inl hg)), (k _ (.inr (.inr (.inl rfl)))).trans h.2.2⟩⟩
def iMa (B db ab : Nat) (t : TypeId) (uk uv vk vv : Value) (yb : List (Int × Int)) (f : Bool) : Itm := ⟨fun b => OMt db uk uv b ∨ OMt ab vk vv b,
  fun W => W.heap[db]? = some (.cells #[uk, uv] t (0, 0)) ∧ W.ownsRow B 3 1 uk (keysOf yb).length (intsV (keysOf yb)) ∧ W.ownsRow B 3 1 uv (valsOf yb).length (intsV (valsOf yb)) ∧ (∀ g, uk.ownBlock = some g → uv.ownBlock ≠ some g) ∧ W.heap[ab]? = some (.cells (if f then #[uk, uv] else #[vk, vv]) t (0, 0)),
  fun W1 W2 h k => ⟨(k _ (.inl (.inl rfl))).trans h.1, own_same h.2.1 fun g hg => k g (.inl (.inr (.inl hg))), own_same h.2.2.1 fun g hg => k g (.inl (.inr (.inr hg))), h.2.2.2.1, (k _ (.inr (.inl rfl))).trans h.2.2.2.2⟩⟩
section
variable {w W W' : World} {hb lb pb qb kb nn n2 k n nb g c : Nat} {m m2 : HM} {r r1 r2 r3 : Rw} {kv zs us yb yc kvp : List (Int × Int)} {xs ya : List Int} {its jts : List Itm} {it it2 jt i1 i2 : Itm} {vk vv uk uv uL vL : Value} {db ab bb cb eb ob tb sn : Nat} {B : List (Int × Int)} {Hs : List (Int × Int × Int)}
/-- two things as one -/
theorem TS.merge (X : TS w W hb lb pb qb kb m r1 r2 r3 nn kv (it :: jt :: its)) (o : it2.ok W) (hn : ∀ b, it2.fp b → it.fp b ∨ jt.fp b) : TS w W hb lb pb qb kb m r1 r2 r3 nn kv (it2 :: its) := X.join (.refl _ _) o hn
theorem TS.as (X : TS w W hb lb pb qb kb m r1 r2 r3 nn kv (it :: its)) (o : it2.ok W) (hn : ∀ b, it2.fp b → it.fp b) : TS w W hb lb pb qb kb m r1 r2 r3 nn kv (it2 :: its) := X.item (.refl _ _) o fun b e => .inl (hn b e)
theorem TS.pairL (X : TS w W hb lb pb qb kb m r1 r2 r3 nn kv (iL w.heap.size db uL ya :: iL w.heap.size ab vL xs :: its)) : TS w W hb lb pb qb kb m r1 r2 r3 nn kv (iLa w.heap.size db ab uL vL ya false :: its) := by
  have h1 := X.ok
  have h2 : (iL w.heap.size ab vL xs).ok W := X.has (.tail _ (.head _))
  refine X.merge ⟨h1.1, h1.2, h2.1⟩ fun b e => ?_
  rcases e with e | e | e | e
  · exact .inl (.inl e)
  · exact .inl (.inr e)
  · exact .inr (.inl e)
  · exact .inr (.inr e)
theorem TS.pairM (X : TS w W hb lb pb qb kb m r1 r2 r3 nn kv (iM w.heap.size db uk uv yb :: iM w.heap.size ab vk vv zs :: its)) : TS w W hb lb pb qb kb m r1 r2 r3 nn kv (iMa w.heap.size db ab 49 uk uv vk vv yb false :: its) := by
  have h1 : OM W w.heap.size db uk uv (keysOf yb) (valsOf yb) := X.ok
  have h2 : OM W w.heap.size ab vk vv (keysOf zs) (valsOf zs) := X.has (.tail _ (.head _))
  exact X.merge ⟨h1.box, h1.ok, h1.ov, h1.ap, h2.box⟩ fun b e => e
theorem TS.pairQ (X : TS w W hb lb pb qb kb m r1 r2 r3 nn kv (iQ w.heap.size db uk uv yb :: iQ w.heap.size ab vk vv zs :: its)) : TS w W hb lb pb qb kb m r1 r2 r3 nn kv (iMa w.heap.size db ab 51 uk uv vk vv yb false :: its) := by
  have h1 : OQ W w.heap.size db uk uv (keysOf yb) (valsOf yb) := X.ok
  have h2 : OQ W w.heap.size ab vk vv (keysOf zs) (valsOf zs) := X.has (.tail _ (.head _))
  exact X.merge ⟨h1.box, h1.ok, h1.ov, h1.ap, h2.box⟩ fun b e => e
theorem TS.soloL (X : TS w W hb lb pb qb kb m r1 r2 r3 nn kv (iLa w.heap.size db ab uL vL ya true :: its)) : TS w W hb lb pb qb kb m r1 r2 r3 nn kv (iL w.heap.size ab uL ya :: its) := by
  have h := X.ok
  refine X.as ⟨h.2.2, h.2.1⟩ fun b e => ?_
  rcases e with e | e
  · exact .inr (.inr (.inl e))
  · exact .inr (.inl e)
theorem iMa_fp {b : Nat} (e : OMt ab uk uv b) : OMt db uk uv b ∨ OMt ab vk vv b := by
  rcases e with e | e
  · exact .inr (.inl e)
  · exact .inl (.inr e)
theorem TS.soloM (X : TS w W hb lb pb qb kb m r1 r2 r3 nn kv (iMa w.heap.size db ab 49 uk uv vk vv yb true :: its)) : TS w W hb lb pb qb kb m r1 r2 r3 nn kv (iM w.heap.size ab uk uv yb :: its) := by
  have h := X.ok
  exact X.as (it2 := iM w.heap.size ab uk uv yb) ⟨h.2.2.2.2, h.2.1, h.2.2.1, h.2.2.2.1⟩ fun b e => iMa_fp e
theorem TS.soloQ (X : TS w W hb lb pb qb kb m r1 r2 r3 nn kv (iMa w.heap.size db ab 51 uk uv vk vv yb true :: its)) : TS w W hb lb pb qb kb m r1 r2 r3 nn kv (iQ w.heap.size ab uk uv yb :: its) := by
  have h := X.ok
  exact X.as (it2 := iQ w.heap.size ab uk uv yb) ⟨h.2.2.2.2, h.2.1, h.2.2.1, h.2.2.2.1⟩ fun b e => iMa_fp e
/-- the old one's box takes the new one's rows -/
theorem TS.layL (X : TS w W hb lb pb qb kb m r1 r2 r3 nn kv (iLa w.heap.size db ab uL vL ya false :: its)) (hne : db ≠ ab) : TS w (W.setRow ab #[uL]) hb lb pb qb kb m r1 r2 r3 nn kv (iLa w.heap.size db ab uL vL ya true :: its) := by
  obtain ⟨h1, h2, h3⟩ := X.ok
  have n1 : uL.ownBlock ≠ some ab := fun e => by
    obtain ⟨c2, h4⟩ := own_blk h2 e
    have h3 : W.heap[ab]? = some (.cells #[vL] 47 (0, 0)) := h3
    rw [h3] at h4
    injection h4 with h4
    injection h4 with _ h5 _
    exact absurd h5 (by decide)
  have t : Turn (iLa w.heap.size db ab uL vL ya false).fp W (W.setRow ab #[uL]) := (turn_setRow W ab _).wide fun b _ e => .inr (.inr (.inl e))
  exact X.item t ⟨(setRow_other W ab db _ hne).trans h1, own_same h2 fun g hg => setRow_other W ab g _ fun e => n1 (by rw [← e]; exact hg), setRow_heap W ab _ _ _ _ h3⟩ fun b e => .inl e
theorem TS.layM {t0 : TypeId} (X : TS w W hb lb pb qb kb m r1 r2 r3 nn kv (iMa w.heap.size db ab t0 uk uv vk vv yb false :: its)) (hne : db ≠ ab) (ht : t0 ≠ 3) : TS w (W.setRow ab #[uk, uv]) hb lb pb qb kb m r1 r2 r3 nn kv (iMa w.heap.size db ab t0 uk uv vk vv yb true :: its) := by
  obtain ⟨h1, h2, h3, h4, h5⟩ := X.ok
  have h5 : W.heap[ab]? = some (.cells #[vk, vv] t0 (0, 0)) := h5
  have nn : ∀ {v : Value} {n : Nat} {xs : List Value}, W.ownsRow w.heap.size 3 1 v n xs → v.ownBlock ≠ some ab := fun h e => by
    obtain ⟨c2, h6⟩ := own_blk h e
    rw [h5] at h6
    injection h6 with h6
    injection h6 with _ h7 _
    exact ht h7
  have t : Turn (iMa w.heap.size db ab t0 uk uv vk vv yb false).fp W (W.setRow ab #[uk, uv]) := (turn_setRow W ab _).wide fun b _ e => .inr (.inl e)
  exact X.item t ⟨(setRow_other W ab db _ hne).trans h1, own_same h2 fun g hg => setRow_other W ab g _ fun e => nn h2 (by rw [← e]; exact hg), own_same h3 fun g hg => setRow_other W ab g _ fun e => nn h3 (by rw [← e]; exact hg), h4, setRow_heap W ab _ _ _ _ h5⟩ fun b e => .inl e
/-! the document's, where they stand -/
theorem at_put (X : TS w W hb lb pb qb kb m r1 r2 r3 nn kv (i1 :: iM w.heap.size nb vk vv zs :: its)) (nd : (keysOf zs).Nodup) (hn : zs.length ≤ 64) (x v : Int) :
    Calls Tryz.prog 22 #[.pointer (some ⟨nb, 0, none⟩), .int .i64 x, .int .i64 v] W fun e W' => e = .returned (.tuple #[.int .i64 (ptV zs x v), .bool (ptB zs x v), .int .i64 (ptE zs x v)]) ∧ ∃ v4 v5, TS w W' hb lb pb qb kb m r1 r2 r3 nn kv (i1 :: iM w.heap.size nb v4 v5 (ptY zs x v) :: its) := by
  refine (tr_put (X.perm (List.Perm.swap ..)) nd hn x v).mono ?_
  rintro e W' ⟨he, v4, v5, h⟩
  exact ⟨he, v4, v5, h.perm (List.Perm.swap ..)⟩
theorem at_del (X : TS w W hb lb pb qb kb m r1 r2 r3 nn kv (i1 :: iM w.heap.size nb vk vv zs :: its)) (nd : (keysOf zs).Nodup) (hn : zs.length ≤ 64) (x : Int) :
    Calls Tryz.prog 24 #[.pointer (some ⟨nb, 0, none⟩), .int .i64 x] W fun e W' => e = .returned (.tuple #[.int .i64 (gtV zs x), .bool (gtB zs x), .int .i64 (gtE x)]) ∧ ∃ v4 v5, TS w W' hb lb pb qb kb m r1 r2 r3 nn kv (i1 :: iM w.heap.size nb v4 v5 (dlY zs x) :: its) := by
  refine (tr_del (X.perm (List.Perm.swap ..)) nd hn x).mono ?_
  rintro e W' ⟨he, v4, v5, h⟩
  exact ⟨he, v4, v5, h.perm (List.Perm.swap ..)⟩
theorem up3 (a b c : Itm) (l : List Itm) : (a :: b :: c :: l).Perm (c :: a :: b :: l) := ((List.Perm.swap c b l).cons a).trans (List.Perm.swap c a (b :: l))
theorem at_push (X : TS w W hb lb pb qb kb m r1 r2 r3 nn kv (i1 :: i2 :: iQ w.heap.size nb vk vv zs :: its)) (hn : zs.length ≤ 64) (n what : Int) :
    Calls Tryz.prog 26 #[.pointer (some ⟨nb, 0, none⟩), .int .i64 n, .int .i64 what] W fun e W' => e = .returned (.int .i64 (psE zs n what)) ∧ ∃ v4 v5, TS w W' hb lb pb qb kb m r1 r2 r3 nn kv (i1 :: i2 :: iQ w.heap.size nb v4 v5 (psY zs n what) :: its) := by
  refine (tr_push (X.perm (up3 _ _ _ _)) hn n what).mono ?_
  rintro e W' ⟨he, v4, v5, h⟩
  exact ⟨he, v4, v5, h.perm (up3 _ _ _ _).symm⟩
theorem at_pop (X : TS w W hb lb pb qb kb m r1 r2 r3 nn kv (i1 :: i2 :: iQ w.heap.size nb vk vv zs :: its)) (hn : zs.length ≤ 64) :
    Calls Tryz.prog 28 #[.pointer (some ⟨nb, 0, none⟩)] W fun e W' => e = .returned (.tuple #[.int .i64 (lsP zs).1, .int .i64 (lsP zs).2, .bool (decide (0 < zs.length))]) ∧ ∃ v4 v5, TS w W' hb lb pb qb kb m r1 r2 r3 nn kv (i1 :: i2 :: iQ w.heap.size nb v4 v5 (popY zs) :: its) := by
  refine (tr_pop (X.perm (up3 _ _ _ _)) hn).mono ?_
  rintro e W' ⟨he, v4, v5, h⟩
  exact ⟨he, v4, v5, h.perm (up3 _ _ _ _).symm⟩
/-! the things that are made in a round -/
theorem TS.newL (X : TS w W hb lb pb qb kb m r1 r2 r3 nn kv its) (hq : Q W W') (h1 : W'.heap[nb]? = some (.cells #[uL] 47 (0, 0))) (hn : W.heap.size ≤ nb) (o : W'.ownsRow W.heap.size 3 1 uL ya.length (intsV ya)) : TS w W' hb lb pb qb kb m r1 r2 r3 nn kv (iL w.heap.size nb uL ya :: its) := by
  refine X.add hq ⟨h1, own_low o X.size⟩ fun b e => ?_
  rcases e with e | e
  · subst e
    exact ⟨hn, blk_lt h1⟩
  · exact o.lt b e
theorem TS.newM (X : TS w W hb lb pb qb kb m r1 r2 r3 nn kv its) (hq : Q W W') (h1 : W'.heap[nb]? = some (.cells #[uk, uv] 49 (0, 0))) (hn : W.heap.size ≤ nb) (o1 : W'.ownsRow W.heap.size 3 1 uk (keysOf yb).length (intsV (keysOf yb))) (o2 : W'.ownsRow W.heap.size 3 1 uv (valsOf yb).length (intsV (valsOf yb))) (hap : ∀ g, uk.ownBlock = some g → uv.ownBlock ≠ some g) : TS w W' hb lb pb qb kb m r1 r2 r3 nn kv (iM w.heap.size nb uk uv yb :: its) := by
  refine X.add (it := iM w.heap.size nb uk uv yb) hq ⟨h1, own_low o1 X.size, own_low o2 X.size, hap⟩ fun b e => ?_
  rcases e with e | e | e
  · subst e
    exact ⟨hn, blk_lt h1⟩
  · exact o1.lt b e
  · exact o2.lt b e
theorem TS.newQ (X : TS w W hb lb pb qb kb m r1 r2 r3 nn kv its) (hq : Q W W') (h1 : W'.heap[nb]? = some (.cells #[uk, uv] 51 (0, 0))) (hn : W.heap.size ≤ nb) (o1 : W'.ownsRow W.heap.size 3 1 uk (keysOf yb).length (intsV (keysOf yb))) (o2 : W'.ownsRow W.heap.size 3 1 uv (valsOf yb).length (intsV (valsOf yb))) (hap : ∀ g, uk.ownBlock = some g → uv.ownBlock ≠ some g) : TS w W' hb lb pb qb kb m r1 r2 r3 nn kv (iQ w.heap.size nb uk uv yb :: its) := by
  refine X.add (it := iQ w.heap.size nb uk uv yb) hq ⟨h1, own_low o1 X.size, own_low o2 X.size, hap⟩ fun b e => ?_
  rcases e with e | e | e
  · subst e
    exact ⟨hn, blk_lt h1⟩
  · exact o1.lt b e
  · exact o2.lt b e
/-- before: the stretches that lived at first -/
def iS (w : World) (A : Option Addr) (sn c : Nat) (B : List (Int × Int)) : Itm := iV w.heap.size 64 2 (.slice A sn c) sn (B.flatMap encP)
/-- between two rounds -/
def PT (w : World) (hb lb pb qb kb ab bb cb : Nat) (S : Itm) (B : List (Int × Int)) (Hs : List (Int × Int × Int)) (i : Nat) (W : World) : Prop :=
  ∃ (m : HM) (r1 r2 r3 : Rw) (xs : List Int) (kv zs : List (Int × Int)) (vL vk vv wk wv : Value), TS w W hb lb pb qb kb m r1 r2 r3 i kv [iL w.heap.size ab vL xs, iM w.heap.size bb vk vv kv, iQ w.heap.size cb wk wv zs, S] ∧ P3 m r1 r2 r3 xs kv zs B Hs i
/-- behind the acts of a round -/
def CutT (w : World) (hb lb pb qb kb ab bb cb db eb ob tb : Nat) (S : Itm) (op a1 b1 : Int) (B : List (Int × Int)) (Hs : List (Int × Int × Int)) (i : Nat) (t26 t27 : Value) (W : World) : Prop :=
  ∃ (m : HM) (r1 r2 r3 : Rw) (xs ya : List Int) (kv zs yb yc kvp : List (Int × Int)) (vL vk vv wk wv uL uk uv xk xv : Value) (got want : Int), t26 = .int .i64 got ∧ t27 = .int .i64 want ∧
    TS w W hb lb pb qb kb m r1 r2 r3 (i + 1) kvp [iL w.heap.size db uL ya, iM w.heap.size eb uk uv yb, iQ w.heap.size ob xk xv yc, iB tb 53 #[.int .i64 op, .int .i64 a1, .int .i64 b1], iL w.heap.size ab vL xs, iM w.heap.size bb vk vv kv, iQ w.heap.size cb wk wv zs, S] ∧
    (got = want ∨ (got = 3 ∧ want = 0)) ∧ ∃ xs' kv' zs', P3 m r1 r2 r3 xs' kv' zs' B Hs (i + 1) ∧ kvp = kv' ∧ (((got == 0) = true ∧ xs' = ya ∧ kv' = yb ∧ zs' = yc) ∨ ((got == 0) = false ∧ xs' = xs ∧ kv' = kv ∧ zs' = zs))
end
end Go.Proofs.YtdaklffbfadghaaGreat

namespace Go.Proofs.YtdaklffbfadghaaGreat
open Go.RowKit HP
set_option linter.unusedVariables false
set_option linter.unusedSimpArgs false
/-- a heap of the call's own, and a thing beside it -/
def BG (w : World) (hb : Nat) (m : HM) (S : Itm) (W : World) : Prop := ∃ h : Hp, HpR W h ∧ h.mu = 0 ∧ h.m = m ∧ h.blk = hb ∧ Q w W ∧ (∀ b, h.fp b → w.heap.size ≤ b) ∧ S.ok W ∧ ∀ b, S.fp b → b < W.heap.size ∧ w.heap.size ≤ b ∧ ¬ h.fp b
section
variable {w W W' : World} {hb g : Nat} {m : HM} {r : Rw} {rs : List Rw} {its : List Itm} {S : Itm} {f : FuncId} {args : Array Value}
theorem fp_mapB {h : Hp} (H : HpR W h) {b n : Nat} {D : DM} (o : World.keeps W b n D) : ¬ h.fp b := fun hf => by
  obtain ⟨es, clock, e, -⟩ := o
  rcases hf with hb | hb | ⟨x, hx, hb⟩ | ⟨hk, hb⟩
  · subst hb
    rw [H.cells] at e; cases e
  · obtain ⟨cs', e'⟩ := own_blk H.live hb
    rw [e'] at e; cases e
  · subst hb
    obtain ⟨cs', e'⟩ := own_blk (H.rows x hx) x.own
    rw [e'] at e; cases e
  · subst hb
    rcases hk with hk | hk
    · rw [H.w1 hk] at e; cases e
    · rw [H.w2 hk] at e; cases e
theorem fp_mapR {h : Hp} (L : LR W h r) {b n : Nat} {D : DM} (o : World.keeps W b n D) : ¬ r.fp b := fun hf => by
  obtain ⟨es, clock, e, -⟩ := o
  rcases hf with hb | hb
  · subst hb
    rw [L.cells] at e; cases e
  · obtain ⟨cs', e'⟩ := own_blk L.pcs hb
    rw [e'] at e; cases e
theorem bg_live (O : Own w W g m) (I : Inv m) : Calls Tryz.prog 12 #[.pointer (some ⟨g, 0, none⟩)] W fun e w' => ∃ A c, e = .returned (.slice A (stretches m).length c) ∧ BG w g m (iS w A (stretches m).length c (stretches m)) w' := by
  obtain ⟨h, rfl, h2, h3, rfl, h5, h6⟩ := O
  refine (live_act h W h2 I h3).mono ?_
  rintro e W' ⟨v, h', he, ho, D, hmu, hm⟩
  have hl : (stretches h.m).length = h.bks.length := by unfold stretches Hp.m; simp
  rw [← hl] at ho
  obtain ⟨A, c, ev, hS⟩ := str_sl ho
  subst ev
  have O' := Own.did (h := h) rfl h5 h6 D hmu
  have hsz := h5.size
  refine ⟨A, c, he, h', D.rep, hmu, hm, D.blk, O'.toQ, fun b hb => ?_, own_low ho hsz, fun b hb => ?_⟩
  · rcases D.fp b hb with e | e
    · exact h6 b e
    · exact Nat.le_trans h5.size e
  · have hlt := ho.lt b hb
    refine ⟨hlt.2, by omega, fun e => ?_⟩
    obtain ⟨cs, hc⟩ := own_blk ho hb
    exact fp_pair D.rep hc e
theorem bg_row (X : BG w hb m S W) {P : Ending → World → Prop} (hc : ∀ h, HpR W h → h.mu = 0 → h.m = m → h.blk = hb → Calls Tryz.prog f args W fun e W' => P e W' ∧ Q W W' ∧ LR W' h r) (hr : ∀ b, r.fp b → W.heap.size ≤ b) :
    Calls Tryz.prog f args W fun e W' => P e W' ∧ ST w W' hb m [r] [S] := by
  obtain ⟨h, h1, h2, h3, h4, h5, h6, h7, h8⟩ := X
  refine (hc h h1 h2 h3 h4).mono ?_
  rintro e W' ⟨hP, hq, L⟩
  have hsz := h5.size
  refine ⟨hP, ⟨⟨h, fun r' hr' => ?_, h3, h4, h6, fun b ⟨i, hi, e⟩ => ?_⟩, h5.trans hq, List.pairwise_singleton .., fun r' hr' b e => ?_, fun b ⟨i, hi, e⟩ => ⟨?_, ?_, fun r' hr' e' => ?_⟩⟩, fun i hi => ?_, List.pairwise_singleton ..⟩
  · rw [List.mem_singleton.1 hr']; exact L
  · rw [List.mem_singleton.1 hi] at e; exact (h8 b e).2.2
  · rw [List.mem_singleton.1 hr'] at e
    have := hr b e
    omega
  · rw [List.mem_singleton.1 hi] at e; exact Nat.lt_of_lt_of_le (h8 b e).1 hq.size
  · rw [List.mem_singleton.1 hi] at e; exact (h8 b e).2.1
  · rw [List.mem_singleton.1 hi] at e
    rw [List.mem_singleton.1 hr'] at e'
    have := hr b e'
    have := (h8 b e).1
    omega
  · rw [List.mem_singleton.1 hi]
    exact S.st _ _ h7 fun b e => hq.below.block b (h8 b e).1
/-- new rows -/
theorem ST.row {r0 : Rw} (X : ST w W hb m (r0 :: rs) its) {P : Ending → World → Prop} (hc : ∀ h, HpR W h → h.mu = 0 → h.m = m → h.blk = hb → Calls Tryz.prog f args W fun e W' => P e W' ∧ Q W W' ∧ LR W' h r) (hr : ∀ b, r.fp b → W.heap.size ≤ b) :
    Calls Tryz.prog f args W fun e W' => P e W' ∧ ST w W' hb m (r :: r0 :: rs) its := by
  obtain ⟨⟨⟨h, L, e1, e2, e3, e4⟩, h1, h2, h3, h4⟩, ok, ap⟩ := X
  have L0 := L r0 (List.mem_cons_self ..)
  refine (hc h L0.heap L0.mu e1 e2).mono ?_
  rintro e W' ⟨hP, hq, Lr⟩
  have hsz := h1.size
  have blk := hq.below.block
  refine ⟨hP, ⟨⟨h, fun r' hr' => ?_, e1, e2, e3, e4⟩, h1.trans hq, List.pairwise_cons.2 ⟨fun r' hr' b x y => ?_, h2⟩, fun r' hr' b x => ?_, fun b x => ⟨Nat.lt_of_lt_of_le (h4 b x).1 hq.size, (h4 b x).2.1, fun r' hr' y => ?_⟩⟩, fun i hi => ?_, ap⟩
  · rcases List.mem_cons.1 hr' with rfl | hr'
    · exact Lr
    · exact (L r' hr').keep fun b hf => blk b (hf.elim ((L r' hr').heap.lt b) ((L r' hr').rlt b))
  · have := hr b x
    have := (L r' hr').rlt b y
    omega
  · rcases List.mem_cons.1 hr' with rfl | hr'
    · have := hr b x
      omega
    · exact h3 r' hr' b x
  · rcases List.mem_cons.1 hr' with rfl | hr'
    · have := hr b y
      have := (h4 b x).1
      omega
    · exact (h4 b x).2.2 r' hr' y
  · exact i.st _ _ (ok i hi) fun b x => blk b (h4 b ⟨i, hi, x⟩).1
theorem bg_list (X : BG w hb m S W) : Calls Tryz.prog 13 #[.pointer (some ⟨hb, 0, none⟩)] W fun e W' => e = .returned (.tuple #[.pointer (some ⟨W.heap.size, 0, none⟩), .int .i64 0]) ∧ ST w W' hb m [newRw W.heap.size 117 []] [S] := by
  refine bg_row X (P := fun e W' => e = .returned (.tuple #[.pointer (some ⟨W.heap.size, 0, none⟩), .int .i64 0])) (fun h h1 h2 h3 h4 => ?_) fun b e => ?_
  · have := newList_any h1 h2
    rw [show h.ptr = .pointer (some ⟨hb, 0, none⟩) by unfold Hp.ptr; rw [h4]] at this
    exact this
  · rcases e with e | e
    · exact Nat.le_of_eq e.symm
    · cases e
theorem bg_map (X : ST w W hb m (r :: rs) its) : Calls Tryz.prog 14 #[.pointer (some ⟨hb, 0, none⟩)] W fun e W' => e = .returned (.tuple #[.pointer (some ⟨W.heap.size + 1, 0, none⟩), .int .i64 0]) ∧ ST w W' hb m (newRw (W.heap.size + 1) 121 [.map (some W.heap.size)] :: r :: rs) (iK W.heap.size 0 [] :: its) := by
  refine (X.row (P := fun e W' => e = .returned (.tuple #[.pointer (some ⟨W.heap.size + 1, 0, none⟩), .int .i64 0]) ∧ Q W W' ∧ World.keeps W' W.heap.size 0 (.map [])) (r := newRw (W.heap.size + 1) 121 [.map (some W.heap.size)]) (fun h h1 h2 h3 h4 => ?_) fun b e => ?_).mono ?_
  · have := newMap_any h1 h2
    rw [show h.ptr = .pointer (some ⟨hb, 0, none⟩) by unfold Hp.ptr; rw [h4]] at this
    refine this.mono ?_
    rintro e W' ⟨he, hq, L, o⟩
    exact ⟨⟨he, hq, o⟩, hq, L⟩
  · rcases e with e | e
    · have e : b = W.heap.size + 1 := e
      omega
    · cases e
  · rintro e W' ⟨⟨he, hq, o⟩, Y⟩
    refine ⟨he, ?_⟩
    have hkl := o.lt
    have ns : ∀ i ∈ its, ¬ i.fp W.heap.size := fun i hi x => by
      have := (X.lt hi _ x).1
      omega
    refine ⟨⟨?_, Y.ln.q, Y.ln.ap, Y.ln.rn, fun b ⟨i, hi, x⟩ => ?_⟩, fun i hi => ?_, List.pairwise_cons.2 ⟨fun i hi b x y => ?_, Y.ap⟩⟩
    · obtain ⟨h, L, e1, e2, e3, e4⟩ := Y.ln.ex
      refine ⟨h, L, e1, e2, e3, fun b ⟨i, hi, x⟩ => ?_⟩
      rcases List.mem_cons.1 hi with rfl | hi
      · have x : b = W.heap.size := x
        subst x
        exact fp_mapB (L _ (List.mem_cons_self ..)).heap o
      · exact e4 b ⟨i, hi, x⟩
    · rcases List.mem_cons.1 hi with rfl | hi
      · have x : b = W.heap.size := x
        subst x
        refine ⟨hkl, X.ln.q.size, fun r' hr' y => ?_⟩
        obtain ⟨h, L, -⟩ := Y.ln.ex
        exact fp_mapR (L r' hr') o y
      · exact Y.ln.ss b ⟨i, hi, x⟩
    · rcases List.mem_cons.1 hi with rfl | hi
      · exact ⟨0, _, o, Nat.le_refl _, Wh.nil⟩
      · exact Y.ok i hi
    · have x : b = W.heap.size := x
      subst x
      exact ns i hi y
theorem bg_queue (X : ST w W hb m (r :: rs) its) : Calls Tryz.prog 15 #[.pointer (some ⟨hb, 0, none⟩)] W fun e W' => e = .returned (.tuple #[.pointer (some ⟨W.heap.size, 0, none⟩), .int .i64 0]) ∧ ST w W' hb m (newRw W.heap.size 124 [.int .i64 0] :: r :: rs) its := by
  refine X.row (P := fun e W' => e = .returned (.tuple #[.pointer (some ⟨W.heap.size, 0, none⟩), .int .i64 0])) (fun h h1 h2 h3 h4 => ?_) fun b e => ?_
  · have := newQueue_any h1 h2
    rw [show h.ptr = .pointer (some ⟨hb, 0, none⟩) by unfold Hp.ptr; rw [h4]] at this
    exact this
  · rcases e with e | e
    · exact Nat.le_of_eq e.symm
    · cases e
end
end Go.Proofs.YtdaklffbfadghaaGreat

namespace Go.Proofs.YtdaklffbfadghaaGreat
open Go.RowKit HP
set_option linter.unusedVariables false
set_option linter.unusedSimpArgs false
section
variable {w W W' : World} {hb lb pb qb kb nn k db ab bb cb g9 c9 i : Nat} {m : HM} {r1 r2 r3 : Rw} {kv zs kvp : List (Int × Int)} {xs : List Int} {its : List Itm} {S : Itm} {B : List (Int × Int)} {Hs : List (Int × Int × Int)} {a1 b1 : Int} {b3 b9 : Bool} {v3 u1 u2 : Value} {Ls : List (List Int)} {t : Int}
theorem PT.toQ (X : PT w hb lb pb qb kb ab bb cb S B Hs i W) : Q w W := by
  obtain ⟨m, r1, r2, r3, xs, kv, zs, vL, vk, vv, wk, wv, X, -⟩ := X
  exact X.st.q
/-- Add and the document's Insert, in whichever order -/
def StA (w : World) (hb lb pb qb kb : Nat) (m : HM) (r1 r2 r3 : Rw) (nn : Nat) (kvp : List (Int × Int)) (xs : List Int) (a1 : Int) (db g9 c9 : Nat) (its : List Itm) (b3 b9 : Bool) (v3 : Value) (W : World) : Prop :=
  ∃ (m' : HM) (r1' : Rw) (vd : Value), TS w W hb lb pb qb kb m' r1' r2 r3 nn kvp (iL w.heap.size db vd (if b9 then insY xs xs.length a1 else xs) :: its) ∧ (if b3 then ∃ err, v3 = .int .i64 err ∧ InsO m m' r1 r1' xs xs.length a1 err else m' = m ∧ r1' = r1) ∧ (b9 = false → vd = .slice (some ⟨g9, 0, none⟩) xs.length c9)
theorem sta_start (X : TS w W hb lb pb qb kb m r1 r2 r3 nn kvp (iL w.heap.size db (.slice (some ⟨g9, 0, none⟩) xs.length c9) xs :: its)) : StA w hb lb pb qb kb m r1 r2 r3 nn kvp xs a1 db g9 c9 its false false v3 W := ⟨m, r1, _, X, ⟨rfl, rfl⟩, fun _ => rfl⟩
theorem sta_q (X : StA w hb lb pb qb kb m r1 r2 r3 nn kvp xs a1 db g9 c9 its b3 b9 v3 W) (hq : Q W W') : StA w hb lb pb qb kb m r1 r2 r3 nn kvp xs a1 db g9 c9 its b3 b9 v3 W' := by
  obtain ⟨m', r', vd, X, h1, h2⟩ := X
  exact ⟨m', r', vd, X.q hq, h1, h2⟩
theorem sta_add (X : StA w hb lb pb qb kb m r1 r2 r3 nn kvp xs a1 db g9 c9 its false b9 v3 W) (S : LstR m r1 xs) (hc : m.calls < 1000000000) :
    Calls Tryz.prog 17 #[.pointer (some ⟨lb, 0, none⟩), .int .i64 a1] W fun e W' => ∃ u, e = .returned u ∧ StA w hb lb pb qb kb m r1 r2 r3 nn kvp xs a1 db g9 c9 its true b9 u W' ∧ ∃ err, u = .int .i64 err := by
  obtain ⟨m', r', vd, X, ⟨e1, e2⟩, h2⟩ := X
  subst e1
  subst e2
  refine (ts_add X S hc a1).mono ?_
  rintro e W' ⟨m2, r2', hX, err, he, hO⟩
  exact ⟨_, he, ⟨m2, r2', vd, hX, ⟨err, rfl, hO⟩, h2⟩, err, rfl⟩
theorem sta_ins (X : StA w hb lb pb qb kb m r1 r2 r3 nn kvp xs a1 db g9 c9 its b3 false v3 W) (hn : xs.length ≤ 1000) :
    Calls Tryz.prog 18 #[.pointer (some ⟨db, 0, none⟩), .int .i64 (xs.length : Int), .int .i64 a1] W fun e W' => e = .returned (.int .i64 (insP xs xs.length a1)) ∧ StA w hb lb pb qb kb m r1 r2 r3 nn kvp xs a1 db g9 c9 its b3 true v3 W' := by
  obtain ⟨m', r', vd, X, h1, h2⟩ := X
  have h2 := h2 rfl
  subst h2
  refine (tr_ins X hn _ a1).mono ?_
  rintro e W' ⟨he, v4, hX⟩
  exact ⟨he, m', r', v4, hX, h1, fun h => by cases h⟩
theorem sta_len (X : StA w hb lb pb qb kb m r1 r2 r3 nn kvp xs a1 db g9 c9 its b3 false v3 W) : W.cell? ⟨db, 0, none⟩ = some (.slice (some ⟨g9, 0, none⟩) xs.length c9) := by
  obtain ⟨m', r', vd, X, h1, h2⟩ := X
  have h2 := h2 rfl
  subst h2
  rw [cell_of_row _ _ _ _ _ _ X.ok.1]
  rfl
/-- the queue's Push and the document's -/
def StP (w : World) (hb lb pb qb kb : Nat) (m : HM) (r1 r2 r3 : Rw) (nn : Nat) (kvp zs : List (Int × Int)) (Ls : List (List Int)) (t a1 b1 : Int) (db : Nat) (i1 i2 : Itm) (its : List Itm) (b3 b9 : Bool) (v3 : Value) (W : World) : Prop :=
  ∃ (m' : HM) (r3' : Rw) (u1 u2 : Value), TS w W hb lb pb qb kb m' r1 r2 r3' nn kvp (i1 :: i2 :: iQ w.heap.size db u1 u2 (if b9 then psY zs a1 b1 else zs) :: its) ∧ (if b3 then ∃ L2 err t2, v3 = .int .i64 err ∧ PushO m m' r3 r3' Ls L2 t a1 b1 err t2 else m' = m ∧ r3' = r3)
variable {i1 i2 : Itm}
theorem stp_start (X : TS w W hb lb pb qb kb m r1 r2 r3 nn kvp (i1 :: i2 :: iQ w.heap.size db u1 u2 zs :: its)) : StP w hb lb pb qb kb m r1 r2 r3 nn kvp zs Ls t a1 b1 db i1 i2 its false false v3 W := ⟨m, r3, _, _, X, ⟨rfl, rfl⟩⟩
theorem stp_q (X : StP w hb lb pb qb kb m r1 r2 r3 nn kvp zs Ls t a1 b1 db i1 i2 its b3 b9 v3 W) (hq : Q W W') : StP w hb lb pb qb kb m r1 r2 r3 nn kvp zs Ls t a1 b1 db i1 i2 its b3 b9 v3 W' := by
  obtain ⟨m', r', x, y, X, h1⟩ := X
  exact ⟨m', r', x, y, X.q hq, h1⟩
theorem stp_push (X : StP w hb lb pb qb kb m r1 r2 r3 nn kvp zs Ls t a1 b1 db i1 i2 its false b9 v3 W) (I : QI m r3 Ls zs t k) (hc : m.calls < 1000000000) (hk : k < 1000000) :
    Calls Tryz.prog 25 #[.pointer (some ⟨qb, 0, none⟩), .int .i64 a1, .int .i64 b1] W fun e W' => ∃ u, e = .returned u ∧ StP w hb lb pb qb kb m r1 r2 r3 nn kvp zs Ls t a1 b1 db i1 i2 its true b9 u W' ∧ ∃ err, u = .int .i64 err := by
  obtain ⟨m', r', x, y, X, ⟨e1, e2⟩⟩ := X
  subst e1
  subst e2
  refine (ts_push X I hc hk a1 b1).mono ?_
  rintro e W' ⟨m2, r2', hX, L2, err, t2, he, hO⟩
  exact ⟨_, he, ⟨m2, r2', x, y, hX, ⟨L2, err, t2, rfl, hO⟩⟩, err, rfl⟩
theorem stp_ref (X : StP w hb lb pb qb kb m r1 r2 r3 nn kvp zs Ls t a1 b1 db i1 i2 its b3 false v3 W) (hn : zs.length ≤ 64) :
    Calls Tryz.prog 26 #[.pointer (some ⟨db, 0, none⟩), .int .i64 a1, .int .i64 b1] W fun e W' => e = .returned (.int .i64 (psE zs a1 b1)) ∧ StP w hb lb pb qb kb m r1 r2 r3 nn kvp zs Ls t a1 b1 db i1 i2 its b3 true v3 W' := by
  obtain ⟨m', r', x, y, X, h1⟩ := X
  refine (at_push X hn a1 b1).mono ?_
  rintro e W' ⟨he, v4, v5, hX⟩
  exact ⟨he, m', r', v4, v5, hX, h1⟩
/-- what the copy of one reads -/
theorem om_copy {nb : Nat} {vk vv : Value} {B : Nat} {kv : List (Int × Int)} (M : OM W B nb vk vv (keysOf kv) (valsOf kv)) : ∃ A c A2 c2, vk = .slice A kv.length c ∧ vv = .slice A2 kv.length c2 ∧ (∀ W', Q W W' → W'.cell? ⟨nb, 0, none⟩ = some (.slice A kv.length c) ∧ W'.cell? ⟨nb, 1, none⟩ = some (.slice A2 kv.length c2)) ∧
    ((A = none → kv.length = 0 ∧ c = 0) ∧ (intsV (keysOf kv)).length = kv.length * 1 ∧ ∀ W', Q W W' → Rd W' W'.heap.size A (intsV (keysOf kv))) ∧ ((A2 = none → kv.length = 0 ∧ c2 = 0) ∧ (intsV (valsOf kv)).length = kv.length * 1 ∧ ∀ W', Q W W' → Rd W' W'.heap.size A2 (intsV (valsOf kv))) := by
  have lk : (keysOf kv).length = kv.length := by unfold keysOf; rw [List.length_map]
  have lv : (valsOf kv).length = kv.length := by unfold valsOf; rw [List.length_map]
  obtain ⟨A, c, A2, c2, ek, ev, -⟩ := M.rm
  have nl : ∀ {v : Value} {A : Option Addr} {c : Nat} {ws : List Value}, W.ownsRow B 3 1 v kv.length ws → v = .slice A kv.length c → A = none → kv.length = 0 ∧ c = 0 := fun h e e2 => by
    subst e2
    rcases h.2 with ⟨h0, -⟩ | ⟨g, cap, cur, h0, -⟩
    · rw [e] at h0
      injection h0 with _ h1 h2
      exact ⟨h1, h2⟩
    · rw [e] at h0
      cases h0
  have ok := M.ok
  rw [lk] at ok
  have ov := M.ov
  rw [lv] at ov
  refine ⟨A, c, A2, c2, ek, ev, fun W' hq => ?_, ⟨nl ok ek, by unfold intsV; rw [List.length_map, lk]; omega, fun W' hq => ?_⟩, nl ov ev, by unfold intsV; rw [List.length_map, lv]; omega, fun W' hq => ?_⟩
  · have h := (M.q hq).k
    rw [ek, ev] at h
    exact ⟨h.1, h.2.1⟩
  · rw [ek] at ok
    exact own_rd (own_q ok hq)
  · rw [ev] at ov
    exact own_rd (own_q ov hq)
/-- what the copy of one reads -/
theorem oq_copy {nb : Nat} {vk vv : Value} {B : Nat} {kv : List (Int × Int)} (M : OQ W B nb vk vv (keysOf kv) (valsOf kv)) : ∃ A c A2 c2, vk = .slice A kv.length c ∧ vv = .slice A2 kv.length c2 ∧ (∀ W', Q W W' → W'.cell? ⟨nb, 0, none⟩ = some (.slice A kv.length c) ∧ W'.cell? ⟨nb, 1, none⟩ = some (.slice A2 kv.length c2)) ∧
    ((A = none → kv.length = 0 ∧ c = 0) ∧ (intsV (keysOf kv)).length = kv.length * 1 ∧ ∀ W', Q W W' → Rd W' W'.heap.size A (intsV (keysOf kv))) ∧ ((A2 = none → kv.length = 0 ∧ c2 = 0) ∧ (intsV (valsOf kv)).length = kv.length * 1 ∧ ∀ W', Q W W' → Rd W' W'.heap.size A2 (intsV (valsOf kv))) := by
  have lk : (keysOf kv).length = kv.length := by unfold keysOf; rw [List.length_map]
  have lv : (valsOf kv).length = kv.length := by unfold valsOf; rw [List.length_map]
  obtain ⟨A, c, A2, c2, ek, ev, -⟩ := M.rq
  have nl : ∀ {v : Value} {A : Option Addr} {c : Nat} {ws : List Value}, W.ownsRow B 3 1 v kv.length ws → v = .slice A kv.length c → A = none → kv.length = 0 ∧ c = 0 := fun h e e2 => by
    subst e2
    rcases h.2 with ⟨h0, -⟩ | ⟨g, cap, cur, h0, -⟩
    · rw [e] at h0
      injection h0 with _ h1 h2
      exact ⟨h1, h2⟩
    · rw [e] at h0
      cases h0
  have ok := M.ok
  rw [lk] at ok
  have ov := M.ov
  rw [lv] at ov
  refine ⟨A, c, A2, c2, ek, ev, fun W' hq => ?_, ⟨nl ok ek, by unfold intsV; rw [List.length_map, lk]; omega, fun W' hq => ?_⟩, nl ov ev, by unfold intsV; rw [List.length_map, lv]; omega, fun W' hq => ?_⟩
  · have h := (M.q hq).k
    rw [ek, ev] at h
    exact ⟨h.1, h.2.1⟩
  · rw [ek] at ok
    exact own_rd (own_q ok hq)
  · rw [ev] at ov
    exact own_rd (own_q ov hq)
theorem TS.copyM {nb : Nat} {kv2 : List (Int × Int)} (X : TS w W hb lb pb qb kb m r1 r2 r3 nn kv its) (hq : Q W W') (hbx : W'.heap[nb]? = some (.cells #[.slice none 0 0, .slice none 0 0] 49 (0, 0))) (hnb : W.heap.size ≤ nb)
    (o1 : W'.ownsRow W.heap.size 3 1 u1 (keysOf kv2).length (intsV (keysOf kv2))) (o2 : W'.ownsRow W.heap.size 3 1 u2 (valsOf kv2).length (intsV (valsOf kv2))) (hap : ∀ g, u1.ownBlock = some g → u2.ownBlock ≠ some g) : TS w (W'.setRow nb #[u1, u2]) hb lb pb qb kb m r1 r2 r3 nn kv (iM w.heap.size nb u1 u2 kv2 :: its) := by
  have n1 := boxM_ne hbx o1
  have n2 := boxM_ne hbx o2
  exact X.newM (hq.setRow hnb _) (setRow_heap W' nb _ _ _ _ hbx) hnb (own_same o1 fun g hg => setRow_other W' nb g _ fun e => n1 (by rw [← e]; exact hg)) (own_same o2 fun g hg => setRow_other W' nb g _ fun e => n2 (by rw [← e]; exact hg)) hap
theorem TS.copyQ {nb : Nat} {kv2 : List (Int × Int)} (X : TS w W hb lb pb qb kb m r1 r2 r3 nn kv its) (hq : Q W W') (hbx : W'.heap[nb]? = some (.cells #[.slice none 0 0, .slice none 0 0] 51 (0, 0))) (hnb : W.heap.size ≤ nb)
    (o1 : W'.ownsRow W.heap.size 3 1 u1 (keysOf kv2).length (intsV (keysOf kv2))) (o2 : W'.ownsRow W.heap.size 3 1 u2 (valsOf kv2).length (intsV (valsOf kv2))) (hap : ∀ g, u1.ownBlock = some g → u2.ownBlock ≠ some g) : TS w (W'.setRow nb #[u1, u2]) hb lb pb qb kb m r1 r2 r3 nn kv (iQ w.heap.size nb u1 u2 kv2 :: its) := by
  have n1 := boxQ_ne hbx o1
  have n2 := boxQ_ne hbx o2
  exact X.newQ (hq.setRow hnb _) (setRow_heap W' nb _ _ _ _ hbx) hnb (own_same o1 fun g hg => setRow_other W' nb g _ fun e => n1 (by rw [← e]; exact hg)) (own_same o2 fun g hg => setRow_other W' nb g _ fun e => n2 (by rw [← e]; exact hg)) hap
/-- Put and Delete, with the map's content told -/
theorem t_put2 {m' : HM} {r2' : Rw} {us : List (Int × Int)} {x v old err : Int} {is : Bool} (P : P3 m r1 r2 r3 xs kv zs B Hs k) (O : PutO m m' r2 r2' kv us x v old is err) : (err = ptE kv x v ∨ (err = 3 ∧ ptE kv x v = 0)) ∧ P3 m' r1 r2' r3 xs us zs B Hs (k + 1) ∧ (((err == 0) = true ∧ us = ptY kv x v) ∨ ((err == 0) = false ∧ us = kv)) := by
  obtain ⟨-, -, G2, h1, h2, h3⟩ := put_out P.mp P.g2 O
  obtain ⟨F, hc, S2⟩ := put_fr P.mp O
  exact ⟨h1.out, P.map S2 F hc, h3⟩
theorem t_del2 {m' : HM} {r2' : Rw} {us : List (Int × Int)} {x v err : Int} {is : Bool} (P : P3 m r1 r2 r3 xs kv zs B Hs k) (O : DelO m m' r2 r2' kv us x v is err) : (err = gtE x ∨ (err = 3 ∧ gtE x = 0)) ∧ P3 m' r1 r2' r3 xs us zs B Hs (k + 1) ∧ (((err == 0) = true ∧ us = dlY kv x) ∨ ((err == 0) = false ∧ us = kv)) := by
  obtain ⟨-, -, -, G2, h1, h2, h3⟩ := del_out P.mp P.g2 O
  obtain ⟨F, hc, S2⟩ := del_fr P.mp O
  exact ⟨h1.out, P.map S2 F hc, h3⟩
/-! the end -/
structure C1 (m : HM) (r2 r3 : Rw) (kv zs B : List (Int × Int)) (Hs : List (Int × Int × Int)) : Prop where
  mp : MapR m r2 kv
  qu : ∃ Ls t k, QI m r3 Ls zs t k
  d23 : ∀ p ∈ r2.ps, p ∉ r3.ps
  rest : rest m (r2.ps ++ r3.ps) = B
  hold : ∀ x ∈ Hs, Holds m x.1 x.2.1 x.2.2 ∧ x.1 ∉ r2.ps ∧ x.1 ∉ r3.ps
structure C2 (m : HM) (r2 : Rw) (kv B : List (Int × Int)) (Hs : List (Int × Int × Int)) : Prop where
  mp : MapR m r2 kv
  rest : rest m r2.ps = B
  hold : ∀ x ∈ Hs, Holds m x.1 x.2.1 x.2.2 ∧ x.1 ∉ r2.ps
structure C3 (m : HM) (B : List (Int × Int)) (Hs : List (Int × Int × Int)) : Prop where
  inv : Inv m
  rest : stretches m = B
  hold : ∀ x ∈ Hs, Holds m x.1 x.2.1 x.2.2
theorem ts_closeL (X : TS w W hb lb pb qb kb m r1 r2 r3 nn kv its) (P : P3 m r1 r2 r3 xs kv zs B Hs k) :
    Calls Tryz.prog 31 #[.pointer (some ⟨lb, 0, none⟩)] W fun e W' => e = .returned (.int .i64 0) ∧ ∃ m' r', TS w W' hb lb pb qb kb m' r' r2 r3 nn kv its ∧ C1 m' r2 r3 kv zs B Hs := by
  refine (X.c1 (P := fun e W' m' r' => e = .returned (.int .i64 0) ∧ Clsd m m' r1.ps) fun h L e1 e2 => ?_).mono ?_
  · have := closeL_any L (xs := xs) (by rw [e1]; exact P.l)
    rw [X.p1, e1] at this
    refine this.mono ?_
    rintro e W' ⟨m', r', hX, he, hC, -⟩
    exact ⟨m', r', hX, he, hC⟩
  · rintro e W' ⟨m', r', hX, he, hC⟩
    obtain ⟨Ls, t, q⟩ := P.qu
    obtain ⟨M, -⟩ := map_frame P.mp hC.inv hC.fr fun p h1 h2 => P.d12 p h2 h1
    obtain ⟨Qq, -⟩ := que_frame q hC.inv hC.fr fun p h1 h2 => P.d13 p h2 h1
    refine ⟨he, m', r', hX, M, ⟨Ls, t, k, Qq⟩, P.d23, ?_, fun x hx => ?_⟩
    · have h1 := rest_app m' [] (r2.ps ++ r3.ps)
      rw [List.nil_append] at h1
      rw [h1, hC.fr.rest, ← P.rest, rest_app m r1.ps]
    · obtain ⟨H, a1, a2, a3⟩ := P.hold x hx
      exact ⟨hC.fr.hold _ _ _ a1 H, a2, a3⟩
theorem ts_closeQ (X : TS w W hb lb pb qb kb m r1 r2 r3 nn kv its) (P : C1 m r2 r3 kv zs B Hs) :
    Calls Tryz.prog 32 #[.pointer (some ⟨qb, 0, none⟩)] W fun e W' => e = .returned (.int .i64 0) ∧ ∃ m' r', TS w W' hb lb pb qb kb m' r1 r2 r' nn kv its ∧ C2 m' r2 kv B Hs := by
  obtain ⟨Ls, t, k, q⟩ := P.qu
  refine (X.c3 (P := fun e W' m' r' => e = .returned (.int .i64 0) ∧ Clsd m m' r3.ps) fun h L e1 e2 => ?_).mono ?_
  · have := closeQ_any L (Ls := Ls) (t := t) (by rw [e1]; exact q.que)
    rw [X.p3, e1] at this
    refine this.mono ?_
    rintro e W' ⟨m', r', hX, he, hC, -⟩
    exact ⟨m', r', hX, he, hC⟩
  · rintro e W' ⟨m', r', hX, he, hC⟩
    obtain ⟨M, -⟩ := map_frame P.mp hC.inv hC.fr P.d23
    refine ⟨he, m', r', hX, M, ?_, fun x hx => ?_⟩
    · have h1 := rest_app m' [] r2.ps
      rw [List.nil_append] at h1
      have h2 : Go.Proofs.YtdaklffbfadghaaGreat.rest m (r2.ps ++ r3.ps) = Go.Proofs.YtdaklffbfadghaaGreat.rest m (r3.ps ++ r2.ps) := rest_mem m fun p => by simp only [List.mem_append]; exact or_comm
      rw [h1, hC.fr.rest, ← P.rest, h2, rest_app m r3.ps]
    · obtain ⟨H, a2, a3⟩ := P.hold x hx
      exact ⟨hC.fr.hold _ _ _ a3 H, a2⟩
theorem ts_closeM (X : TS w W hb lb pb qb kb m r1 r2 r3 nn kv its) (P : C2 m r2 kv B Hs) :
    Calls Tryz.prog 35 #[.pointer (some ⟨pb, 0, none⟩)] W fun e W' => e = .returned (.int .i64 0) ∧ ∃ m' r', ST w W' hb m' [r', r1, r3] its ∧ C3 m' B Hs := by
  have p : ∀ a b c : Rw, [a, b, c].Perm [b, a, c] := fun a b c => List.Perm.swap b a [c]
  refine ((X.st.rperm (p r1 r2 r3)).shut (P := fun e m' r' => e = .returned (.int .i64 0) ∧ Clsd m m' r2.ps) fun h n D L e1 e2 M hnn hW => ?_).mono ?_
  · have := closeM_any L (kv := kv) (by rw [e1]; exact P.mp) M X.mo
    rw [X.p2, e1] at this
    refine this.mono ?_
    rintro e W' ⟨he, m', r', h2, hM, hC, -⟩
    exact ⟨m', r', h2, hM, he, hC⟩
  · rintro e W' ⟨m', r', hX, he, hC⟩
    refine ⟨he, m', r', hX, hC.inv, ?_, fun x hx => ?_⟩
    · rw [← rest_nil, hC.fr.rest, P.rest]
    · obtain ⟨H, a2⟩ := P.hold x hx
      exact hC.fr.hold _ _ _ a2 H
end
end Go.Proofs.YtdaklffbfadghaaGreat

namespace Go.Proofs.YtdaklffbfadghaaGreat
open Go.RowKit HP
set_option linter.unusedVariables false
set_option linter.unusedSimpArgs false
section
variable {w W W' : World} {hb lb pb qb kb nn tb : Nat} {m : HM} {r1 r2 r3 : Rw} {kv : List (Int × Int)} {its : List Itm} {op a1 b1 : Int}
theorem TS.actc (X : TS w W hb lb pb qb kb m r1 r2 r3 nn kv its) (h : iB tb 53 #[.int .i64 op, .int .i64 a1, .int .i64 b1] ∈ its) : W.cell? ⟨tb, 0, none⟩ = some (.int .i64 op) ∧ W.cell? ⟨tb, 1, none⟩ = some (.int .i64 a1) ∧ W.cell? ⟨tb, 2, none⟩ = some (.int .i64 b1) ∧ tb < W.heap.size := by
  have h : W.heap[tb]? = some (.cells #[.int .i64 op, .int .i64 a1, .int .i64 b1] 53 (0, 0)) := X.has h
  refine ⟨?_, ?_, ?_, blk_lt h⟩
  · rw [cell_of_row _ _ _ _ _ _ h]; rfl
  · rw [cell_of_row _ _ _ _ _ _ h]; rfl
  · rw [cell_of_row _ _ _ _ _ _ h]; rfl
theorem Sl.strT {w : World} {A : Option Addr} {n c : Nat} {xs : List (Int × Int)} (h : Sl 2 encP w A n c xs) (i : Nat) (hi : i < n) :
    ∃ b o a1 b1, A = some ⟨b, o, none⟩ ∧ b < w.heap.size ∧ xs[i]? = some (a1, b1) ∧ w.cell? ⟨b, o + i * 2, none⟩ = some (.int .i64 a1) ∧ w.cell? ⟨b, o + i * 2 + 1, none⟩ = some (.int .i64 b1) := by
  obtain ⟨b, o, ⟨a1, b1⟩, e, hb, hx, hc⟩ := h.at_ (fun _ => rfl) (by decide) i hi
  exact ⟨b, o, a1, b1, e, hb, hx, by simpa using hc 0 _ rfl, hc 1 _ rfl⟩
theorem strT_facts {m : HM} (I : Inv m) {k : Nat} {a b : Int} (h : (stretches m)[k]? = some (a, b)) : 0 ≤ a ∧ 1 ≤ b ∧ a + b ≤ 4096 ∧ (∀ p q, 0 < k → (stretches m)[k - 1]? = some (p, q) → p + q ≤ a) := by
  unfold stretches at h ⊢
  rw [List.getElem?_map] at h
  cases hx : m.live[k]? with
  | none => rw [hx] at h; cases h
  | some x =>
    rw [hx] at h
    have e : shape x = (a, b) := Option.some.inj h
    unfold shape at e
    injection e with e1 e2
    have hin := I.fit.inn x (List.mem_of_getElem? hx)
    have hsz := I.fit.sz
    unfold pend at hin
    refine ⟨by omega, by omega, by omega, fun p q hk hp => ?_⟩
    rw [List.getElem?_map] at hp
    cases hy : m.live[k - 1]? with
    | none => rw [hy] at hp; cases hp
    | some y =>
      rw [hy] at hp
      have e' : shape y = (p, q) := Option.some.inj hp
      unfold shape at e'
      injection e' with e3 e4
      have := (I.fit.lt hy hx (by omega)).2
      unfold pend at this
      omega
variable {db ab bb cb eb ob : Nat} {uL vL uk uv vk vv xk xv wk wv : Value} {xs ya xs' : List Int} {zs yb yc kv' zs' : List (Int × Int)} {B : List (Int × Int)} {Hs : List (Int × Int × Int)} {S : Itm} {i1 i2 : Itm} {nb k : Nat}
/-- `a, b, c = d, k, o`, partly done -/
def CopyT (w : World) (hb lb pb qb kb : Nat) (m : HM) (r1 r2 r3 : Rw) (nn : Nat) (kv : List (Int × Int)) (db ab eb bb ob cb : Nat) (uL vL uk uv vk vv xk xv wk wv : Value) (ya : List Int) (yb yc : List (Int × Int)) (S : Itm) (b3 b4 b5 : Bool) (W : World) : Prop :=
  TS w W hb lb pb qb kb m r1 r2 r3 nn kv [iLa w.heap.size db ab uL vL ya b3, iMa w.heap.size eb bb 49 uk uv vk vv yb b4, iMa w.heap.size ob cb 51 xk xv wk wv yc b5, S]
theorem cp_start (X : TS w W hb lb pb qb kb m r1 r2 r3 nn kv [iL w.heap.size db uL ya, iM w.heap.size eb uk uv yb, iQ w.heap.size ob xk xv yc, iB tb 53 #[.int .i64 op, .int .i64 a1, .int .i64 b1], iL w.heap.size ab vL xs, iM w.heap.size bb vk vv kv', iQ w.heap.size cb wk wv zs, S]) :
    CopyT w hb lb pb qb kb m r1 r2 r3 nn kv db ab eb bb ob cb uL vL uk uv vk vv xk xv wk wv ya yb yc S false false false W := by
  have a0 := (X.perm (List.Perm.trans (List.Perm.cons _ (up3 _ _ _ _)) (List.Perm.swap ..))).drop
  have a1 := a0.perm (jts := [iL w.heap.size db uL ya, iL w.heap.size ab vL xs, iM w.heap.size eb uk uv yb, iQ w.heap.size ob xk xv yc, iM w.heap.size bb vk vv kv', iQ w.heap.size cb wk wv zs, S]) ((up3 _ _ _ _).cons _)
  have a2 := a1.pairL
  have a3 := (a2.perm (jts := [iM w.heap.size eb uk uv yb, iM w.heap.size bb vk vv kv', iLa w.heap.size db ab uL vL ya false, iQ w.heap.size ob xk xv yc, iQ w.heap.size cb wk wv zs, S]) ((List.Perm.swap _ _ _).trans ((((List.Perm.swap _ _ _).cons _).trans (List.Perm.swap _ _ _)).cons _))).pairM
  have a4 := (a3.perm (jts := [iQ w.heap.size ob xk xv yc, iQ w.heap.size cb wk wv zs, iMa w.heap.size eb bb 49 uk uv vk vv yb false, iLa w.heap.size db ab uL vL ya false, S]) ((up3 _ _ _ _).trans ((up3 _ _ _ _).cons _))).pairQ
  exact a4.perm ((up3 _ _ _ _).trans ((List.Perm.swap _ _ _).cons _))
theorem cp_q {b3 b4 b5 : Bool} (X : CopyT w hb lb pb qb kb m r1 r2 r3 nn kv db ab eb bb ob cb uL vL uk uv vk vv xk xv wk wv ya yb yc S b3 b4 b5 W) (hq : Q W W') : CopyT w hb lb pb qb kb m r1 r2 r3 nn kv db ab eb bb ob cb uL vL uk uv vk vv xk xv wk wv ya yb yc S b3 b4 b5 W' := TS.q X hq
theorem cp_rows {b3 b4 b5 : Bool} (X : CopyT w hb lb pb qb kb m r1 r2 r3 nn kv db ab eb bb ob cb uL vL uk uv vk vv xk xv wk wv ya yb yc S b3 b4 b5 W) :
    W.heap[db]? = some (.cells #[uL] 47 (0, 0)) ∧ W.heap[eb]? = some (.cells #[uk, uv] 49 (0, 0)) ∧ W.heap[ob]? = some (.cells #[xk, xv] 51 (0, 0)) ∧
    (b3 = false → W.heap[ab]? = some (.cells #[vL] 47 (0, 0))) ∧ (b4 = false → W.heap[bb]? = some (.cells #[vk, vv] 49 (0, 0))) ∧ (b5 = false → W.heap[cb]? = some (.cells #[wk, wv] 51 (0, 0))) := by
  have h1 := TS.has X (it := iLa w.heap.size db ab uL vL ya b3) (.head _)
  have h2 := TS.has X (it := iMa w.heap.size eb bb 49 uk uv vk vv yb b4) (.tail _ (.head _))
  have h3 := TS.has X (it := iMa w.heap.size ob cb 51 xk xv wk wv yc b5) (.tail _ (.tail _ (.head _)))
  refine ⟨h1.1, h2.1, h3.1, fun e => ?_, fun e => ?_, fun e => ?_⟩
  · subst e; exact h1.2.2
  · subst e; exact h2.2.2.2.2
  · subst e; exact h3.2.2.2.2
theorem cp_l {b4 b5 : Bool} (X : CopyT w hb lb pb qb kb m r1 r2 r3 nn kv db ab eb bb ob cb uL vL uk uv vk vv xk xv wk wv ya yb yc S false b4 b5 W) (hne : db ≠ ab) : CopyT w hb lb pb qb kb m r1 r2 r3 nn kv db ab eb bb ob cb uL vL uk uv vk vv xk xv wk wv ya yb yc S true b4 b5 (W.setRow ab #[uL]) := TS.layL X hne
theorem cp_m {b3 b5 : Bool} (X : CopyT w hb lb pb qb kb m r1 r2 r3 nn kv db ab eb bb ob cb uL vL uk uv vk vv xk xv wk wv ya yb yc S b3 false b5 W) (hne : eb ≠ bb) : CopyT w hb lb pb qb kb m r1 r2 r3 nn kv db ab eb bb ob cb uL vL uk uv vk vv xk xv wk wv ya yb yc S b3 true b5 (W.setRow bb #[uk, uv]) := by
  have X : TS _ _ _ _ _ _ _ _ _ _ _ _ _ _ := X
  exact ((X.perm (List.Perm.swap _ _ _)).layM hne (by decide)).perm (List.Perm.swap _ _ _)
theorem cp_z {b3 b4 : Bool} (X : CopyT w hb lb pb qb kb m r1 r2 r3 nn kv db ab eb bb ob cb uL vL uk uv vk vv xk xv wk wv ya yb yc S b3 b4 false W) (hne : ob ≠ cb) : CopyT w hb lb pb qb kb m r1 r2 r3 nn kv db ab eb bb ob cb uL vL uk uv vk vv xk xv wk wv ya yb yc S b3 b4 true (W.setRow cb #[xk, xv]) := by
  have X : TS _ _ _ _ _ _ _ _ _ _ _ _ _ _ := X
  exact ((X.perm (up3 _ _ _ _)).layM hne (by decide)).perm (up3 _ _ _ _).symm
theorem cp_end (X : CopyT w hb lb pb qb kb m r1 r2 r3 k kv db ab eb bb ob cb uL vL uk uv vk vv xk xv wk wv ya yb yc S true true true W) (P : P3 m r1 r2 r3 ya yb yc B Hs k) (e : kv = yb) : PT w hb lb pb qb kb ab bb cb S B Hs k W := by
  subst e
  have X : TS _ _ _ _ _ _ _ _ _ _ _ _ _ _ := X
  have a1 := X.soloL
  have a2 := (a1.perm (List.Perm.swap _ _ _)).soloM
  have a3 := (a2.perm (up3 _ _ _ _)).soloQ
  exact ⟨m, r1, r2, r3, ya, kv, yc, _, _, _, _, _, a3.perm ((up3 _ _ _ _).trans (by exact List.Perm.cons _ (List.Perm.swap _ _ _)) |>.trans (by exact List.Perm.refl _)), P⟩
theorem cp_keep (X : TS w W hb lb pb qb kb m r1 r2 r3 k kv [iL w.heap.size db uL ya, iM w.heap.size eb uk uv yb, iQ w.heap.size ob xk xv yc, iB tb 53 #[.int .i64 op, .int .i64 a1, .int .i64 b1], iL w.heap.size ab vL xs, iM w.heap.size bb vk vv kv, iQ w.heap.size cb wk wv zs, S]) (P : P3 m r1 r2 r3 xs kv zs B Hs k) : PT w hb lb pb qb kb ab bb cb S B Hs k W :=
  ⟨m, r1, r2, r3, xs, kv, zs, _, _, _, _, _, X.drop.drop.drop.drop, P⟩
theorem TS.apart2 (X : TS w W hb lb pb qb kb m r1 r2 r3 nn kv its) (h : [i1, i2].Sublist its) {b : Nat} (h1 : i1.fp b) : ¬ i2.fp b := by
  have hp := (List.pairwise_cons.1 X.st.ap).2
  exact (List.pairwise_cons.1 (hp.sublist h)).1 i2 (.head _) b h1
theorem run_neqT {P : Program} {o : Oper} {A : Act} {w : World} {x y : Operand} {t t' : TypeId} {p u : Int} (ho : o.op = .binOp .neq t x y t') (hx : A.eval x = .int .i64 p) (hy : A.eval y = .int .i64 u) (hu : P.underlying t = some (.int .i64)) : (execOp A.eval o).run P w = .ok (.value (.bool (p != u))) w := by
  unfold execOp
  simp only [ho, hx, hy]
  simp [go_sem]
/-- the end, step by step: the list is closed, the queue, the map -/
def EndT (w : World) (hb lb pb qb kb k : Nat) (xs : List Int) (kv zs : List (Int × Int)) (B : List (Int × Int)) (Hs : List (Int × Int × Int)) (its : List Itm) (c1 c5 c18 : Bool) (W : World) : Prop :=
  (c18 = true → ∃ (m : HM) (r : Rw) (rs : List Rw), ST w W hb m (r :: rs) its ∧ C3 m B Hs) ∧
  (c18 = false → c5 = true → ∃ (m : HM) (r1 r2 r3 : Rw), TS w W hb lb pb qb kb m r1 r2 r3 k kv its ∧ C2 m r2 kv B Hs) ∧
  (c18 = false → c5 = false → c1 = true → ∃ (m : HM) (r1 r2 r3 : Rw), TS w W hb lb pb qb kb m r1 r2 r3 k kv its ∧ C1 m r2 r3 kv zs B Hs) ∧
  (c18 = false → c5 = false → c1 = false → ∃ (m : HM) (r1 r2 r3 : Rw), TS w W hb lb pb qb kb m r1 r2 r3 k kv its ∧ P3 m r1 r2 r3 xs kv zs B Hs k)
section
variable {c1 c5 c18 : Bool} {A2 A3 : Option Addr} {d2 d3 : Nat} {it : Itm}
theorem et_q (X : EndT w hb lb pb qb kb k ya kv zs B Hs its c1 c5 c18 W) (hq : Q W W') : EndT w hb lb pb qb kb k ya kv zs B Hs its c1 c5 c18 W' := by
  obtain ⟨h1, h2, h3, h4⟩ := X
  refine ⟨fun e => ?_, fun e e2 => ?_, fun e e2 e3 => ?_, fun e e2 e3 => ?_⟩
  · obtain ⟨m, r, rs, X, Y⟩ := h1 e
    exact ⟨m, r, rs, X.q' (by simp) hq, Y⟩
  · obtain ⟨m, r1, r2, r3, X, Y⟩ := h2 e e2
    exact ⟨m, r1, r2, r3, X.q hq, Y⟩
  · obtain ⟨m, r1, r2, r3, X, Y⟩ := h3 e e2 e3
    exact ⟨m, r1, r2, r3, X.q hq, Y⟩
  · obtain ⟨m, r1, r2, r3, X, Y⟩ := h4 e e2 e3
    exact ⟨m, r1, r2, r3, X.q hq, Y⟩
theorem et_item (X : EndT w hb lb pb qb kb k ya kv zs B Hs its c1 c5 c18 W) (h : it ∈ its) : it.ok W := by
  obtain ⟨h1, h2, h3, h4⟩ := X
  cases c18 with
  | true =>
    obtain ⟨m, r, rs, X, Y⟩ := h1 rfl
    exact X.ok _ h
  | false =>
    cases c5 with
    | true =>
      obtain ⟨m, r1, r2, r3, X, Y⟩ := h2 rfl rfl
      exact X.has h
    | false =>
      cases c1 with
      | true =>
        obtain ⟨m, r1, r2, r3, X, Y⟩ := h3 rfl rfl rfl
        exact X.has h
      | false =>
        obtain ⟨m, r1, r2, r3, X, Y⟩ := h4 rfl rfl rfl
        exact X.has h
theorem et_1 (X : EndT w hb lb pb qb kb k ya kv zs B Hs its false false false W) : Calls Tryz.prog 31 #[.pointer (some ⟨lb, 0, none⟩)] W fun e W' => e = .returned (.int .i64 0) ∧ EndT w hb lb pb qb kb k ya kv zs B Hs its true false false W' := by
  obtain ⟨m, r1, r2, r3, X, P⟩ := X.2.2.2 rfl rfl rfl
  refine (ts_closeL X P).mono ?_
  rintro e W' ⟨he, m', r', hX, hC⟩
  exact ⟨he, (fun e => by cases e), (fun _ e => by cases e), fun _ _ _ => ⟨m', r', r2, r3, hX, hC⟩, fun _ _ e => by cases e⟩
theorem et_5 (X : EndT w hb lb pb qb kb k ya kv zs B Hs its true false false W) : Calls Tryz.prog 32 #[.pointer (some ⟨qb, 0, none⟩)] W fun e W' => e = .returned (.int .i64 0) ∧ EndT w hb lb pb qb kb k ya kv zs B Hs its true true false W' := by
  obtain ⟨m, r1, r2, r3, X, P⟩ := X.2.2.1 rfl rfl rfl
  refine (ts_closeQ X P).mono ?_
  rintro e W' ⟨he, m', r', hX, hC⟩
  exact ⟨he, (fun e => by cases e), (fun _ _ => ⟨m', r1, r2, r', hX, hC⟩), (fun _ e => by cases e), fun _ e => by cases e⟩
theorem et_10 (X : EndT w hb lb pb qb kb k ya kv zs B Hs its true true false W) : Calls Tryz.prog 34 #[.pointer (some ⟨pb, 0, none⟩)] W fun e W' => ∃ u, e = .returned u ∧ EndT w hb lb pb qb kb k ya kv zs B Hs its true true false W' ∧ ∃ A c, u = .slice A kv.length c ∧ Sl 1 (encI .i64) W' A kv.length c (keysOf kv) := by
  obtain ⟨m, r1, r2, r3, X, P⟩ := X.2.1 rfl rfl
  refine (ts_keys X P.mp).mono ?_
  rintro e W' ⟨v, he, hX, ho⟩
  obtain ⟨A, c, ev, -⟩ := own_form ho
  subst ev
  exact ⟨_, he, ⟨(fun e => by cases e), (fun _ _ => ⟨m, r1, r2, r3, hX, P⟩), (fun _ e => by cases e), fun _ e => by cases e⟩, A, c, rfl, own_sl (by unfold keysOf; rw [List.length_map]) ho⟩
theorem et_18 (X : EndT w hb lb pb qb kb k ya kv zs B Hs its true true false W) : Calls Tryz.prog 35 #[.pointer (some ⟨pb, 0, none⟩)] W fun e W' => e = .returned (.int .i64 0) ∧ EndT w hb lb pb qb kb k ya kv zs B Hs its true true true W' := by
  obtain ⟨m, r1, r2, r3, X, P⟩ := X.2.1 rfl rfl
  refine (ts_closeM X P).mono ?_
  rintro e W' ⟨he, m', r', hX, hC⟩
  exact ⟨he, (fun _ => ⟨m', r', _, hX, hC⟩), (fun e => by cases e), (fun e => by cases e), fun e => by cases e⟩
theorem et_23 (X : EndT w hb lb pb qb kb k ya kv zs B Hs its true true true W) : Calls Tryz.prog 12 #[.pointer (some ⟨hb, 0, none⟩)] W fun e W' => ∃ u, e = .returned u ∧ EndT w hb lb pb qb kb k ya kv zs B Hs its true true true W' ∧ ∃ A c, u = .slice A B.length c ∧ Sl 2 encP W' A B.length c B := by
  obtain ⟨m, r, rs, X, C⟩ := X.1 rfl
  refine (X.act (P := fun e W' => ∃ A c, e = .returned (.slice A (stretches m).length c) ∧ Sl 2 encP W' A (stretches m).length c (stretches m)) (m2 := m) fun h H hmu e1 e2 e3 => ?_).mono ?_
  · have := live_act h W H (by rw [e1]; exact C.inv) hmu
    rw [show h.ptr = .pointer (some ⟨hb, 0, none⟩) by unfold Hp.ptr; rw [e2]] at this
    refine this.mono ?_
    rintro e W' ⟨v, h2, he, ho, D, hmu2, hm2⟩
    have hl : (stretches h.m).length = h.bks.length := by unfold stretches Hp.m; simp
    rw [← hl] at ho
    rw [e1] at ho hm2
    obtain ⟨A, c, ev, hS⟩ := str_sl ho
    subst ev
    exact ⟨⟨A, c, he, hS⟩, h2, D, hmu2, hm2⟩
  · rintro e W' ⟨⟨A, c, he, hS⟩, hX⟩
    rw [C.rest] at he hS
    exact ⟨_, he, ⟨(fun _ => ⟨m, r, rs, hX, C⟩), (fun e => by cases e), (fun e => by cases e), fun e => by cases e⟩, A, c, rfl, hS⟩
theorem et_load {at_ : Int} (X : EndT w hb lb pb qb kb k ya kv zs B Hs its true true true W) (hH : (at_, at_, 77) ∈ Hs) : Calls Tryz.prog 36 #[.pointer (some ⟨hb, 0, none⟩), .int .i64 at_] W fun e W' => e = .returned (.tuple #[.int .i64 77, .int .i64 0]) ∧ Q w W' := by
  obtain ⟨m, r, rs, X, C⟩ := X.1 rfl
  have hl : loadM m at_ = (77, 0) := hold_load C.inv (C.hold (at_, at_, 77) hH) (by show (0 : Int) ≤ 77; decide)
  refine (X.act (P := fun e W' => e = .returned (.tuple #[.int .i64 77, .int .i64 0])) (m2 := m) fun h H hmu e1 e2 e3 => ?_).mono ?_
  · have := load_act h at_ W H (by rw [e1]; exact C.inv) hmu
    rw [e1, hl, show h.ptr = .pointer (some ⟨hb, 0, none⟩) by unfold Hp.ptr; rw [e2]] at this
    refine this.mono ?_
    rintro e W' ⟨h2, he, D, hmu2, hm2⟩
    exact ⟨he, h2, D, hmu2, hm2⟩
  · rintro e W' ⟨he, hX⟩
    exact ⟨he, hX.q⟩
theorem et_toQ (X : EndT w hb lb pb qb kb k ya kv zs B Hs its true true true W) : Q w W := by
  obtain ⟨m, r, rs, X, C⟩ := X.1 rfl
  exact X.q
end
end
end Go.Proofs.YtdaklffbfadghaaGreat
