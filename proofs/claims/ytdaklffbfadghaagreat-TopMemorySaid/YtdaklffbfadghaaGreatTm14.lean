/- A heap and several rows beside each other. A list, a map and a queue in one heap: plain. A heap, several rows, and other things beside them, each with blocks of its own. A list, a map and a queue of the program in one heap, with other things beside them: the acts. A list, a map and a queue of the program in one heap: the document's beside them, the heap's own words. A region that draws its order, in which some calls (loud) each turn the world from one stage into the next: the class of worlds is told by what is done, and by what it yielded. isKept: a list, a map and a queue hold what they should. Conditions: as each theorem says. -/
import Derived.Test.YtdaklffbfadghaaGreatTm12
import Derived.Test.YtdaklffbfadghaaGreatTm13
import Derived.Test.YtdaklffbfadghaaGreatTm2
namespace Go.Proofs.YtdaklffbfadghaaGreat
open Go.RowKit HP
set_option linter.unusedVariables false
set_option linter.unusedSimpArgs false
/-- a heap and rows, all made since w, beside each other and beside the blocks of S -/
structure LN (w W : World) (hb : Nat) (m : HM) (rs : List Rw) (S : Nat → Prop) : Prop where
  ex : ∃ h : Hp, (∀ r ∈ rs, LR W h r) ∧ h.m = m ∧ h.blk = hb ∧ (∀ b, h.fp b → w.heap.size ≤ b) ∧ ∀ b, S b → ¬ h.fp b
  q : Q w W
  ap : rs.Pairwise fun a c => ∀ b, a.fp b → ¬ c.fp b
  rn : ∀ r ∈ rs, ∀ b, r.fp b → w.heap.size ≤ b
  ss : ∀ b, S b → b < W.heap.size ∧ w.heap.size ≤ b ∧ ∀ r ∈ rs, ¬ r.fp b
section
variable {w W W' : World} {hb kb : Nat} {m m2 : HM} {r r2 : Rw} {rs qs : List Rw} {S S' T K : Nat → Prop} {f : FuncId} {args : Array Value} {h h2 : Hp}
theorem LN.perm (X : LN w W hb m rs S) (p : rs.Perm qs) : LN w W hb m qs S := by
  obtain ⟨⟨h, L, e1, e2, e3, e4⟩, h1, h2, h3, h4⟩ := X
  exact ⟨⟨h, fun r hr => L r (p.mem_iff.2 hr), e1, e2, e3, e4⟩, h1, p.pairwise h2 (fun h b x y => h b y x), fun r hr => h3 r (p.mem_iff.2 hr), fun b hb => ⟨(h4 b hb).1, (h4 b hb).2.1, fun r hr => (h4 b hb).2.2 r (p.mem_iff.2 hr)⟩⟩
theorem LN.core (L : ∀ r' ∈ r :: rs, LR W h r') (e2 : h.blk = hb) (e3 : ∀ b, h.fp b → w.heap.size ≤ b) (e4 : ∀ b, S b → ¬ h.fp b) (hq : Q w W) (ap : (r :: rs).Pairwise fun a c => ∀ b, a.fp b → ¬ c.fp b) (rn : ∀ r' ∈ r :: rs, ∀ b, r'.fp b → w.heap.size ≤ b)
    (ss : ∀ b, S b → b < W.heap.size ∧ w.heap.size ≤ b ∧ ∀ r' ∈ r :: rs, ¬ r'.fp b) (D : LR W' h2 r2) (hb2 : h2.blk = h.blk) (t : Turn T W W') (hT : ∀ b, T b → h.fp b ∨ r.fp b ∨ (S b ∧ K b)) (hf : ∀ b, h2.fp b → h.fp b ∨ W.heap.size ≤ b) (rf : ∀ b, r2.fp b → r.fp b ∨ W.heap.size ≤ b) :
    LN w W' hb h2.m (r2 :: rs) S ∧ ∀ b, S b → ¬ K b → W'.heap[b]? = W.heap[b]? := by
  have hsz := hq.size
  have hp : h2.ptr = h.ptr := by unfold Hp.ptr; rw [hb2]
  have keep : ∀ b, b < W.heap.size → ¬ h.fp b → ¬ r.fp b → ¬ (S b ∧ K b) → W'.heap[b]? = W.heap[b]? ∧ ¬ h2.fp b ∧ ¬ r2.fp b := fun b hl n1 n2 n3 =>
    ⟨t.block b hl fun e => (hT b e).elim n1 fun e => e.elim n2 n3, fun e => (hf b e).elim n1 (by omega), fun e => (rf b e).elim n2 (by omega)⟩
  have hap := List.pairwise_cons.1 ap
  have kr : ∀ r' ∈ rs, ∀ b, r'.fp b → W'.heap[b]? = W.heap[b]? ∧ ¬ h2.fp b ∧ ¬ r2.fp b := fun r' hr b hb => by
    have L' := L r' (List.mem_cons_of_mem _ hr)
    exact keep b (L'.rlt b hb) (L'.apart b hb) (fun e => hap.1 r' hr b e hb) fun e => (ss b e.1).2.2 r' (List.mem_cons_of_mem _ hr) hb
  have sS : ∀ b, S b → ¬ h2.fp b ∧ ¬ r2.fp b := fun b hb => by
    obtain ⟨a1, a2, a3⟩ := ss b hb
    exact ⟨fun e => (hf b e).elim (e4 b hb) (by omega), fun e => (rf b e).elim (a3 r (List.mem_cons_self ..)) (by omega)⟩
  refine ⟨⟨⟨h2, fun r' hr => ?_, rfl, hb2.trans e2, fun b e => ?_, fun b e => (sS b e).1⟩, Turn.q_of hq t fun i hi => ?_, List.pairwise_cons.2 ⟨fun r' hr b e e' => (kr r' hr b e').2.2 e, hap.2⟩, fun r' hr b e => ?_, fun b e => ⟨Nat.lt_of_lt_of_le (ss b e).1 t.size, (ss b e).2.1, fun r' hr => ?_⟩⟩, fun b hb hk => ?_⟩
  · rcases List.mem_cons.1 hr with rfl | hr
    · exact D
    · have L' := L r' (List.mem_cons_of_mem _ hr)
      have k := kr r' hr
      refine ⟨D.heap, D.mu, ?_, own_same L'.pcs fun b hg => (k b (.inr hg)).1, (k _ (.inl rfl)).2.1, fun b hb => ⟨(k b (.inr hb)).2.1, (L'.ap2 b hb).2⟩⟩
      rw [(k _ (.inl rfl)).1, L'.cells]
      unfold Rw.cells
      rw [hp]
  · rcases hf b e with x | x
    · exact e3 b x
    · omega
  · rcases hT i hi with x | x | x
    · exact e3 i x
    · exact rn r (List.mem_cons_self ..) i x
    · exact (ss i x.1).2.1
  · rcases List.mem_cons.1 hr with rfl | hr
    · rcases rf b e with x | x
      · exact rn r (List.mem_cons_self ..) b x
      · omega
    · exact rn r' (List.mem_cons_of_mem _ hr) b e
  · rcases List.mem_cons.1 hr with rfl | hr
    · exact (sS b e).2
    · exact (ss b e).2.2 r' (List.mem_cons_of_mem _ hr)
  · obtain ⟨a1, a2, a3⟩ := ss b hb
    exact (keep b a1 (e4 b hb) (a3 r (List.mem_cons_self ..)) fun e => hk e.2).1
/-- some of the blocks apart have turned; some may have come, some be forgotten -/
theorem LN.turn (X : LN w W hb m rs S) (t : Turn T W W') (hT : ∀ b, T b → S b) (hne : rs ≠ []) (hS : ∀ b, S' b → S b ∨ (W.heap.size ≤ b ∧ b < W'.heap.size)) : LN w W' hb m rs S' := by
  obtain ⟨⟨h, L, e1, e2, e3, e4⟩, h1, h2, h3, h4⟩ := X
  have hsz := h1.size
  refine ⟨⟨h, fun r hr => (L r hr).keep fun b hf => ?_, e1, e2, e3, fun b hb => ?_⟩, Turn.q_of h1 t fun i hi => (h4 i (hT i hi)).2.1, h2, h3, fun b hb => ?_⟩
  · refine t.block b (hf.elim ((L r hr).heap.lt b) ((L r hr).rlt b)) fun ht => ?_
    rcases hf with x | x
    · exact e4 b (hT b ht) x
    · exact (h4 b (hT b ht)).2.2 r hr x
  · rcases hS b hb with e | ⟨e, -⟩
    · exact e4 b e
    · cases rs with
      | nil => exact absurd rfl hne
      | cons r rs => exact fun x => by have := (L r (List.mem_cons_self ..)).heap.lt b x; omega
  · rcases hS b hb with e | ⟨e, e'⟩
    · exact ⟨Nat.lt_of_lt_of_le (h4 b e).1 t.size, (h4 b e).2⟩
    · exact ⟨e', by omega, fun r hr x => by have := (L r hr).rlt b x; omega⟩
theorem LN.q' (X : LN w W hb m rs S) (hq : Q W W') (hne : rs ≠ []) : LN w W' hb m rs S := X.turn (T := fun _ => False) (.of_q hq) (fun b e => e.elim) hne fun b e => .inl e
/-- a call on the first rows -/
theorem LN.list (X : LN w W hb m (r :: rs) S) {P : Ending → World → HM → Rw → Prop} (hc : ∀ h, LR W h r → h.m = m → h.blk = hb → h.calls = m.calls → Calls Tryz.prog f args W fun e W' => ∃ m2 r2, LS W h r W' m2 r2 ∧ P e W' m2 r2) :
    Calls Tryz.prog f args W fun e W' => ∃ m2 r2, (LN w W' hb m2 (r2 :: rs) S ∧ r2.blk = r.blk ∧ r2.ty = r.ty ∧ ∀ b, S b → W'.heap[b]? = W.heap[b]?) ∧ P e W' m2 r2 := by
  obtain ⟨⟨h, L, e1, e2, e3, e4⟩, h1, h2, h3, h4⟩ := X
  refine (hc h (L r (List.mem_cons_self ..)) e1 e2 (by rw [← e1]; rfl)).mono ?_
  rintro e W' ⟨m2, r2, ⟨h', D, em⟩, hP⟩
  obtain ⟨g1, g2⟩ := LN.core (K := fun _ => False) L e2 e3 e4 h1 h2 h3 h4 D.lr D.hb D.turn (fun b e => e.elim .inl fun e => .inr (.inl e)) D.hf D.rf
  rw [em] at g1
  exact ⟨m2, r2, ⟨g1, D.rb, D.rt, fun b hb => g2 b hb id⟩, hP⟩
/-- a call on the heap alone -/
theorem LN.act (X : LN w W hb m (r :: rs) S) {P : Ending → World → Prop} {m2 : HM} (hc : ∀ h, HpR W h → h.mu = 0 → h.m = m → h.blk = hb → h.calls = m.calls → Calls Tryz.prog f args W fun e W' => P e W' ∧ ∃ h2, Did W h W' h2 ∧ h2.mu = 0 ∧ h2.m = m2) :
    Calls Tryz.prog f args W fun e W' => P e W' ∧ LN w W' hb m2 (r :: rs) S ∧ ∀ b, S b → W'.heap[b]? = W.heap[b]? := by
  refine (X.list (P := fun e W' m3 r3 => m3 = m2 ∧ r3 = r ∧ P e W') fun h L e1 e2 e3 => (hc h L.heap L.mu e1 e2 e3).mono ?_).mono ?_
  · rintro e W' ⟨hP, h2, D, hmu, hm⟩
    exact ⟨m2, r, ⟨h2, (LDid.refl L).act D hmu, hm⟩, rfl, rfl, hP⟩
  · rintro e W' ⟨m3, r3, ⟨hl, -, -, hs⟩, rfl, rfl, hP⟩
    exact ⟨hP, hl, hs⟩
/-- a call on the first rows, a map at kb -/
theorem LN.map (X : LN w W hb m (r :: rs) (fun b => S b ∨ b = kb)) (nk : ¬ S kb) {nn n2 : Nat} {kv : List (Int × Int)} (own : ∃ n D, World.keeps W kb n D ∧ n ≤ nn ∧ Wh D (keysOf kv)) {P : Ending → World → HM → Rw → List (Int × Int) → Prop}
    (hc : ∀ h n D, LR W h r → h.m = m → h.calls = m.calls → MS W h r kb W h.m r n D h → n ≤ nn → Wh D (keysOf kv) → Calls Tryz.prog f args W fun e W' => ∃ m2 r2 n' D' h2 zs, MS W h r kb W' m2 r2 n' D' h2 ∧ n' ≤ n2 ∧ Wh D' (keysOf zs) ∧ P e W' m2 r2 zs) :
    Calls Tryz.prog f args W fun e W' => ∃ m2 r2 zs, (LN w W' hb m2 (r2 :: rs) (fun b => S b ∨ b = kb) ∧ (∃ n D, World.keeps W' kb n D ∧ n ≤ n2 ∧ Wh D (keysOf zs)) ∧ r2.blk = r.blk ∧ r2.ty = r.ty ∧ ∀ b, S b → W'.heap[b]? = W.heap[b]?) ∧ P e W' m2 r2 zs := by
  obtain ⟨⟨h, L, e1, e2, e3, e4⟩, h1, h2, h3, h4⟩ := X
  obtain ⟨n, D, ho, hn, hW⟩ := own
  have hL := L r (List.mem_cons_self ..)
  refine (hc h n D hL e1 (by rw [← e1]; rfl) (MS.start hL ho ⟨e4 _ (.inr rfl), (h4 _ (.inr rfl)).2.2 r (List.mem_cons_self ..)⟩) hn hW).mono ?_
  rintro e W' ⟨m2, r2, n', D', h2b, zs, M, hn2, hW2, hP⟩
  have C := M.mc
  obtain ⟨g1, g2⟩ := LN.core (K := fun b => b = kb) L e2 e3 e4 h1 h2 h3 h4 C.lr C.hb C.turn (fun b e => by
    rcases e with e | e | e
    · exact .inl e
    · exact .inr (.inl e)
    · exact .inr (.inr ⟨.inr e, e⟩)) C.hf C.rf
  rw [C.hm] at g1
  exact ⟨m2, r2, zs, ⟨g1, ⟨n', D', M.own, hn2, hW2⟩, C.rb, C.rt, fun b hb => g2 b (.inl hb) fun e => nk (e ▸ hb)⟩, hP⟩
/-- the map is closed -/
theorem LN.shut (X : LN w W hb m (r :: rs) (fun b => S b ∨ b = kb)) (nk : ¬ S kb) {nn : Nat} {kv : List (Int × Int)} (own : ∃ n D, World.keeps W kb n D ∧ n ≤ nn ∧ Wh D (keysOf kv)) {P : Ending → HM → Rw → Prop}
    (hc : ∀ h n D, LR W h r → h.m = m → h.calls = m.calls → MS W h r kb W h.m r n D h → n ≤ nn → Wh D (keysOf kv) → Calls Tryz.prog f args W fun e W' => ∃ m2 r2 h2, MC W h r kb W' m2 r2 h2 ∧ P e m2 r2) :
    Calls Tryz.prog f args W fun e W' => ∃ m2 r2, LN w W' hb m2 (r2 :: rs) S ∧ (∀ b, S b → W'.heap[b]? = W.heap[b]?) ∧ P e m2 r2 := by
  obtain ⟨⟨h, L, e1, e2, e3, e4⟩, h1, h2, h3, h4⟩ := X
  obtain ⟨n, D, ho, hn, hW⟩ := own
  have hL := L r (List.mem_cons_self ..)
  refine (hc h n D hL e1 (by rw [← e1]; rfl) (MS.start hL ho ⟨e4 _ (.inr rfl), (h4 _ (.inr rfl)).2.2 r (List.mem_cons_self ..)⟩) hn hW).mono ?_
  rintro e W' ⟨m2, r2, h2b, C, hP⟩
  obtain ⟨g1, g2⟩ := LN.core (K := fun b => b = kb) L e2 e3 e4 h1 h2 h3 h4 C.lr C.hb C.turn (fun b e => by
    rcases e with e | e | e
    · exact .inl e
    · exact .inr (.inl e)
    · exact .inr (.inr ⟨.inr e, e⟩)) C.hf C.rf
  rw [C.hm] at g1
  exact ⟨m2, r2, g1.turn (T := fun _ => False) (.of_q (Q.refl _)) (fun b e => e.elim) (by simp) (fun b e => .inl (.inl e)), fun b hb => g2 b (.inl hb) fun e => nk (e ▸ hb), hP⟩
end
end Go.Proofs.YtdaklffbfadghaaGreat

namespace Go.Proofs.YtdaklffbfadghaaGreat
open Go.RowKit HP
set_option linter.unusedVariables false
set_option linter.unusedSimpArgs false
theorem rest_app (m : HM) (ps qs : List Int) : rest m (ps ++ qs) = (rest m ps).filter fun x => !qs.contains x.1 := by
  unfold rest
  rw [List.filter_filter]
  refine List.filter_congr fun x _ => ?_
  simp [Bool.and_comm]
theorem rest_mem (m : HM) {ps qs : List Int} (h : ∀ p, p ∈ ps ↔ p ∈ qs) : rest m ps = rest m qs := by
  unfold rest
  refine List.filter_congr fun x _ => ?_
  have := h x.1
  by_cases h1 : x.1 ∈ ps
  · have h2 := this.1 h1
    simp [h1, h2]
  · have h2 : x.1 ∉ qs := fun e => h1 (this.2 e)
    simp [h1, h2]
structure P3 (m : HM) (r1 r2 r3 : Rw) (xs : List Int) (kv zs : List (Int × Int)) (B : List (Int × Int)) (Hs : List (Int × Int × Int)) (k : Nat) : Prop where
  l : LstR m r1 xs
  mp : MapR m r2 kv
  qu : ∃ Ls t, QI m r3 Ls zs t k
  d12 : ∀ p ∈ r1.ps, p ∉ r2.ps
  d13 : ∀ p ∈ r1.ps, p ∉ r3.ps
  d23 : ∀ p ∈ r2.ps, p ∉ r3.ps
  rest : rest m (r1.ps ++ (r2.ps ++ r3.ps)) = B
  hold : ∀ x ∈ Hs, Holds m x.1 x.2.1 x.2.2 ∧ x.1 ∉ r1.ps ∧ x.1 ∉ r2.ps ∧ x.1 ∉ r3.ps
  few : m.calls ≤ 4 + (k : Int)
section
variable {m m' m2 : HM} {r r1 r2 r3 r1' r2' r3' : Rw} {xs ys : List Int} {kv zs kv2 zs2 us : List (Int × Int)} {B : List (Int × Int)} {Hs : List (Int × Int × Int)} {k T n : Nat} {ps qs bs : List Int} {Ls L2 : List (List Int)} {t t2 : Int} {G G2 : Gd}
theorem stay_out (F : Fr m m' ps qs) {bg a v : Int} (H : Holds m bg a v) (h : bg ∉ ps) : bg ∉ qs := by
  obtain ⟨n, hh⟩ := H.has
  exact (F.stay hh h).2
theorem lst_frame (S : LstR m r xs) (I : Inv m') (F : Fr m m' qs bs) (h : ∀ p ∈ r.ps, p ∉ qs) : LstR m' r xs ∧ ∀ p ∈ r.ps, p ∉ bs := by
  obtain ⟨k, n⟩ := S.kp.frame F h
  exact ⟨⟨I, k, S.n, S.op, S.fit⟩, n⟩
theorem map_frame (S : MapR m r kv) (I : Inv m') (F : Fr m m' qs bs) (h : ∀ p ∈ r.ps, p ∉ qs) : MapR m' r kv ∧ ∀ p ∈ r.ps, p ∉ bs := by
  obtain ⟨k, n⟩ := S.kp.frame F h
  exact ⟨⟨I, k, S.n, S.op, S.fit, S.nd⟩, n⟩
theorem que_frame (S : QI m r Ls zs t k) (I : Inv m') (F : Fr m m' qs bs) (h : ∀ p ∈ r.ps, p ∉ qs) : QI m' r Ls zs t k ∧ ∀ p ∈ r.ps, p ∉ bs := by
  obtain ⟨kk, n⟩ := S.que.kp.frame F h
  exact ⟨⟨⟨I, kk, S.que.n, S.que.op, S.que.bd, S.que.more⟩, S.ord, S.sim, S.t0, S.tk, S.fit⟩, n⟩
theorem P3.inv (P : P3 m r1 r2 r3 xs kv zs B Hs k) : Inv m := P.l.inv
/-- an act on the list -/
theorem P3.list (P : P3 m r1 r2 r3 xs kv zs B Hs k) (S : LstR m' r1' ys) (F : Fr m m' r1.ps r1'.ps) (hc : m'.calls ≤ m.calls + 1) : P3 m' r1' r2 r3 ys kv zs B Hs (k + 1) := by
  have I := S.inv
  obtain ⟨M, n12⟩ := map_frame P.mp I F fun p h1 h2 => P.d12 p h2 h1
  obtain ⟨Ls, t, q⟩ := P.qu
  obtain ⟨Qq, n13⟩ := que_frame q I F fun p h1 h2 => P.d13 p h2 h1
  refine ⟨S, M, ⟨Ls, t, Qq.more (by omega)⟩, fun p h1 h2 => n12 p h2 h1, fun p h1 h2 => n13 p h2 h1, P.d23, ?_, fun x hx => ?_, ?_⟩
  · rw [← P.rest, rest_app, rest_app, F.rest]
  · obtain ⟨H, a1, a2, a3⟩ := P.hold x hx
    exact ⟨F.hold _ _ _ a1 H, stay_out F H a1, a2, a3⟩
  · have := P.few
    push_cast
    omega
/-- an act on the map -/
theorem P3.map (P : P3 m r1 r2 r3 xs kv zs B Hs k) (S : MapR m' r2' kv2) (F : Fr m m' r2.ps r2'.ps) (hc : m'.calls ≤ m.calls + 1) : P3 m' r1 r2' r3 xs kv2 zs B Hs (k + 1) := by
  have I := S.inv
  obtain ⟨M, n12⟩ := lst_frame P.l I F P.d12
  obtain ⟨Ls, t, q⟩ := P.qu
  obtain ⟨Qq, n23⟩ := que_frame q I F fun p h1 h2 => P.d23 p h2 h1
  refine ⟨M, S, ⟨Ls, t, Qq.more (by omega)⟩, n12, P.d13, fun p h1 h2 => n23 p h2 h1, ?_, fun x hx => ?_, ?_⟩
  · rw [← P.rest, rest_mem m' (qs := r2'.ps ++ (r1.ps ++ r3.ps)) (fun p => by simp only [List.mem_append]; constructor <;> (intro h; rcases h with h | h | h <;> simp [h])), rest_mem m (qs := r2.ps ++ (r1.ps ++ r3.ps)) (fun p => by simp only [List.mem_append]; constructor <;> (intro h; rcases h with h | h | h <;> simp [h])), rest_app, rest_app, F.rest]
  · obtain ⟨H, a1, a2, a3⟩ := P.hold x hx
    exact ⟨F.hold _ _ _ a2 H, a1, stay_out F H a2, a3⟩
  · have := P.few
    push_cast
    omega
/-- an act on the queue -/
theorem P3.que (P : P3 m r1 r2 r3 xs kv zs B Hs k) (S : QI m' r3' L2 zs2 t2 (k + 1)) (F : Fr m m' r3.ps r3'.ps) (hc : m'.calls ≤ m.calls + 1) : P3 m' r1 r2 r3' xs kv zs2 B Hs (k + 1) := by
  have I := S.que.inv
  obtain ⟨M, n13⟩ := lst_frame P.l I F P.d13
  obtain ⟨Q, n23⟩ := map_frame P.mp I F P.d23
  refine ⟨M, Q, ⟨L2, t2, S⟩, P.d12, n13, n23, ?_, fun x hx => ?_, ?_⟩
  · rw [← P.rest, rest_mem m' (qs := r3'.ps ++ (r1.ps ++ r2.ps)) (fun p => by simp only [List.mem_append]; constructor <;> (intro h; rcases h with h | h | h <;> simp [h])), rest_mem m (qs := r3.ps ++ (r1.ps ++ r2.ps)) (fun p => by simp only [List.mem_append]; constructor <;> (intro h; rcases h with h | h | h <;> simp [h])), rest_app, rest_app, F.rest]
  · obtain ⟨H, a1, a2, a3⟩ := P.hold x hx
    exact ⟨F.hold _ _ _ a3 H, a1, a2, stay_out F H a3⟩
  · have := P.few
    push_cast
    omega
theorem P3.more {k2 : Nat} (P : P3 m r1 r2 r3 xs kv zs B Hs k) (h : k ≤ k2) : P3 m r1 r2 r3 xs kv zs B Hs k2 := by
  obtain ⟨Ls, t, q⟩ := P.qu
  exact { P with qu := ⟨Ls, t, q.more h⟩, few := by have := P.few; omega }
/-- a ground of no matter, for the laws' words on what an act comes to -/
def fakeG (m : HM) (ps : List Int) : Gd := ⟨0, none, 0, rest m ps, sum2 (rest m ps), false, m.calls, 64⟩
theorem fake_gi (I : Inv m) (P : Pcs m T ps n) (hT : T ≤ 3) (hn : n ≤ 64) (hc : m.calls ≤ 4 + (k : Int)) : GI m T ps n (fakeG m ps) k :=
  ⟨I, P, hT, rfl, rfl, rfl, ⟨by show (n : Int) ≤ 64; omega, by show (64 : Int) ≤ 64; omega⟩, (fun e => by cases e), hc⟩
theorem NextO.out {got want n : Int} {lg : Bool} (O : NextO G m got want lg n G2) : got = want ∨ (got = 3 ∧ want = 0) := by
  rcases O with ⟨e, -⟩ | ⟨e1, e2, -⟩ | ⟨e1, e2, -⟩
  · exact .inl e
  · exact .inl (e1.trans e2.symm)
  · exact .inr ⟨e1, e2⟩
/-- what an act comes to -/
def Act3 (m' : HM) (r1' r2' r3' : Rw) (xs : List Int) (kv zs : List (Int × Int)) (ya : List Int) (yb yc B : List (Int × Int)) (Hs : List (Int × Int × Int)) (k : Nat) (got want : Int) : Prop :=
  (got = want ∨ (got = 3 ∧ want = 0)) ∧ ∃ xs' kv' zs', P3 m' r1' r2' r3' xs' kv' zs' B Hs (k + 1) ∧ (((got == 0) = true ∧ xs' = ya ∧ kv' = yb ∧ zs' = yc) ∨ ((got == 0) = false ∧ xs' = xs ∧ kv' = kv ∧ zs' = zs))
theorem P3.g1 (P : P3 m r1 r2 r3 xs kv zs B Hs k) : GI m 1 r1.ps xs.length (fakeG m r1.ps) k := fake_gi P.inv (by have := P.l.kp.pcs; rw [one_len] at this; exact this) (by decide) (by have := P.l.kp.len; rw [one_len] at this; exact this) P.few
theorem P3.g2 (P : P3 m r1 r2 r3 xs kv zs B Hs k) : GI m 2 r2.ps kv.length (fakeG m r2.ps) k := fake_gi P.inv P.mp.pcs (by decide) P.mp.l64 P.few
theorem QI.g3 (I : QI m r Ls zs t k) (hc : m.calls ≤ 4 + (k : Int)) : GI m 3 r.ps zs.length (fakeG m r.ps) k := fake_gi I.que.inv I.pcs (by decide) I.l64 hc
theorem ins_fr {i n err : Int} (O : InsO m m2 r r2 xs i n err) : Fr m m2 r.ps r2.ps ∧ m2.calls ≤ m.calls + 1 := by
  rcases O with ⟨-, -, rfl, rfl⟩ | ⟨-, -, -, rfl, rfl⟩ | ⟨-, -, ok, -, -, I⟩
  · exact ⟨.refl _ _, by omega⟩
  · exact ⟨.refl _ _, by omega⟩
  · exact ⟨I.fr, I.calls.2⟩
theorem rem_fr {i v err : Int} (O : RemO m m2 r r2 xs i v err) : Fr m m2 r.ps r2.ps ∧ m2.calls ≤ m.calls + 1 := by
  rcases O with ⟨-, -, -, rfl, rfl⟩ | ⟨-, -, -, -, I⟩
  · exact ⟨.refl _ _, by omega⟩
  · exact ⟨I.fr, by have := I.calls; omega⟩
theorem put_fr {x v old err : Int} {is : Bool} (S : MapR m r kv) (O : PutO m m2 r r2 kv zs x v old is err) : Fr m m2 r.ps r2.ps ∧ m2.calls ≤ m.calls + 1 ∧ MapR m2 r2 zs := by
  rcases O with ⟨-, -, -, -, rfl, rfl, rfl⟩ | ⟨-, -, -, -, rfl, S2, I⟩ | ⟨-, -, -, -, ok, -, -, S2, I⟩
  · exact ⟨.refl _ _, by omega, S⟩
  · exact ⟨I.fr, by have := I.calls; omega, S2⟩
  · exact ⟨I.fr, I.calls.2, S2⟩
theorem del_fr {x v err : Int} {is : Bool} (S : MapR m r kv) (O : DelO m m2 r r2 kv zs x v is err) : Fr m m2 r.ps r2.ps ∧ m2.calls ≤ m.calls + 1 ∧ MapR m2 r2 zs := by
  rcases O with ⟨-, -, -, -, rfl, rfl, rfl⟩ | ⟨-, -, -, -, -, rfl, rfl, rfl⟩ | ⟨-, -, -, i, -, -, S2, I⟩
  · exact ⟨.refl _ _, by omega, S⟩
  · exact ⟨.refl _ _, by omega, S⟩
  · exact ⟨I.fr, by have := I.calls; omega, S2⟩
theorem push_fr {n what err : Int} (O : PushO m m2 r r2 Ls L2 t n what err t2) : Fr m m2 r.ps r2.ps ∧ m2.calls ≤ m.calls + 1 := by
  rcases O with ⟨-, -, rfl, rfl, -, -⟩ | ⟨-, ok, m1, -, D, W, -⟩
  · exact ⟨.refl _ _, by omega⟩
  · exact ⟨D.fr.trans W.fr, by have := D.calls; have := W.calls; omega⟩
theorem t_add {i n err : Int} (P : P3 m r1 r2 r3 xs kv zs B Hs k) (O : InsO m m' r1 r1' xs i n err) : Act3 m' r1' r2 r3 xs kv zs (insY xs i n) kv zs B Hs k err (insP xs i n) := by
  obtain ⟨G2, xs2, h1, h2, S2, h3⟩ := ins_out P.l P.g1 O
  obtain ⟨F, hc⟩ := ins_fr O
  exact ⟨h1.out, xs2, kv, zs, P.list S2 F hc, h3.elim (fun e => .inl ⟨e.1, e.2, rfl, rfl⟩) fun e => .inr ⟨e.1, e.2, rfl, rfl⟩⟩
theorem t_rem {i v err : Int} (P : P3 m r1 r2 r3 xs kv zs B Hs k) (O : RemO m m' r1 r1' xs i v err) : Act3 m' r1' r2 r3 xs kv zs (remY xs i) kv zs B Hs k err (askE xs i) := by
  obtain ⟨-, -, G2, xs2, h1, h2, S2, h3⟩ := rem_out P.l P.g1 O
  obtain ⟨F, hc⟩ := rem_fr O
  exact ⟨h1.out, xs2, kv, zs, P.list S2 F hc, h3.elim (fun e => .inl ⟨e.1, e.2, rfl, rfl⟩) fun e => .inr ⟨e.1, e.2, rfl, rfl⟩⟩
theorem t_push {n what err : Int} (P : P3 m r1 r2 r3 xs kv zs B Hs k) (I : QI m r3 Ls zs t k) (O : PushO m m' r3 r3' Ls L2 t n what err t2) : Act3 m' r1 r2 r3' xs kv zs xs kv (psY zs n what) B Hs k err (psE zs n what) := by
  obtain ⟨G2, h1, zs', L3, t3, h2, I3, h3⟩ := push_out I (I.g3 P.few) O
  obtain ⟨F, hc⟩ := push_fr O
  exact ⟨h1.out, xs, kv, zs', P.que I3 F hc, h3.elim (fun e => .inl ⟨e.1, rfl, rfl, e.2⟩) fun e => .inr ⟨e.1, rfl, rfl, e.2⟩⟩
theorem t_pop (P : P3 m r1 r2 r3 xs kv zs B Hs k) (I : QI m r3 Ls zs t k) (hl : 0 < zs.length) (S2 : QueR m' r3' L2 t) (D : Popd m m' r3.ps r3'.ps) (hp : L2.Perm (popL Ls)) (ho : Ord L2) : Act3 m' r1 r2 r3' xs kv zs xs kv (popY zs) B Hs k 0 0 := by
  obtain ⟨g2, I2⟩ := pop_out I (I.g3 P.few) hl S2 D hp ho
  exact ⟨.inl rfl, xs, kv, popY zs, P.que I2 D.fr (by have := D.calls; omega), .inl ⟨rfl, rfl, rfl, rfl⟩⟩
theorem t_idle (P : P3 m r1 r2 r3 xs kv zs B Hs k) : Act3 m r1 r2 r3 xs kv zs xs kv zs B Hs k 0 0 := ⟨.inl rfl, xs, kv, zs, P.more (by omega), .inl ⟨rfl, rfl, rfl, rfl⟩⟩
theorem t_fail (P : P3 m r1 r2 r3 xs kv zs B Hs k) (a : Int) : Act3 (failAtM m a).1 r1 r2 r3 xs kv zs xs kv zs B Hs k 0 0 := by
  have I := failAt_inv P.inv a
  have F : Fr m (failAtM m a).1 [] [] := by
    unfold failAtM
    split
    · exact ⟨rfl, rfl, rfl, fun _ _ _ _ h => h, fun p hp => .inl hp⟩
    · exact .refl _ _
  have hc : (failAtM m a).1.calls = m.calls := by unfold failAtM; split <;> rfl
  obtain ⟨L, -⟩ := lst_frame P.l I F fun p _ h => by cases h
  obtain ⟨M, -⟩ := map_frame P.mp I F fun p _ h => by cases h
  obtain ⟨Ls, t, q⟩ := P.qu
  obtain ⟨q2, -⟩ := que_frame q I F fun p _ h => by cases h
  refine ⟨.inl rfl, xs, kv, zs, ⟨L, M, ⟨Ls, t, q2.more (by omega)⟩, P.d12, P.d13, P.d23, ?_, fun x hx => ?_, by rw [hc]; have := P.few; push_cast; omega⟩, .inl ⟨rfl, rfl, rfl, rfl⟩⟩
  · have e := F.rest
    rw [← P.rest]
    have := rest_app (failAtM m a).1 [] (r1.ps ++ (r2.ps ++ r3.ps))
    have h2 := rest_app m [] (r1.ps ++ (r2.ps ++ r3.ps))
    rw [List.nil_append] at this h2
    rw [this, h2, e]
  · obtain ⟨H, a1, a2, a3⟩ := P.hold x hx
    exact ⟨F.hold _ _ _ (by simp) H, a1, a2, a3⟩
end
end Go.Proofs.YtdaklffbfadghaaGreat

namespace Go.Proofs.YtdaklffbfadghaaGreat
open Go.RowKit HP
set_option linter.unusedVariables false
set_option linter.unusedSimpArgs false
/-- a thing with blocks of its own: what is said of it holds as long as these are as they were -/
structure Itm where
  fp : Nat → Prop
  ok : World → Prop
  st : ∀ W1 W2, ok W1 → (∀ b, fp b → W2.heap[b]? = W1.heap[b]?) → ok W2
/-- a list of the document, a map, a queue, an act, the map of the keys' places, a slice that was handed out -/
def iL (B nb : Nat) (v : Value) (xs : List Int) : Itm := ⟨fun b => b = nb ∨ v.ownBlock = some b, fun W => W.heap[nb]? = some (.cells #[v] 47 (0, 0)) ∧ W.ownsRow B 3 1 v xs.length (intsV xs),
  fun W1 W2 h k => ⟨(k _ (.inl rfl)).trans h.1, own_same h.2 fun g hg => k g (.inr hg)⟩⟩
def iM (B nb : Nat) (vk vv : Value) (kv : List (Int × Int)) : Itm := ⟨OMt nb vk vv, fun W => OM W B nb vk vv (keysOf kv) (valsOf kv), fun W1 W2 h k => h.same k⟩
def iQ (B nb : Nat) (vk vv : Value) (kv : List (Int × Int)) : Itm := ⟨OMt nb vk vv, fun W => OQ W B nb vk vv (keysOf kv) (valsOf kv), fun W1 W2 h k => h.same k⟩
def iK (kb nn : Nat) (ks : List Int) : Itm := ⟨fun b => b = kb, fun W => ∃ n D, World.keeps W kb n D ∧ n ≤ nn ∧ Wh D ks, fun W1 W2 ⟨n, D, o, h1, h2⟩ k => ⟨n, D, keeps_same o (k _ rfl), h1, h2⟩⟩
def iV (B : Nat) (t : TypeId) (sz : Nat) (v : Value) (n : Nat) (xs : List Value) : Itm := ⟨fun b => v.ownBlock = some b, fun W => W.ownsRow B t sz v n xs, fun W1 W2 h k => own_same h fun g hg => k g hg⟩
structure ST (w W : World) (hb : Nat) (m : HM) (rs : List Rw) (its : List Itm) : Prop where
  ln : LN w W hb m rs (fun b => ∃ it ∈ its, it.fp b)
  ok : ∀ it ∈ its, it.ok W
  ap : its.Pairwise fun a c => ∀ b, a.fp b → ¬ c.fp b
section
variable {w W W' : World} {hb kb : Nat} {m m2 : HM} {r r2 : Rw} {rs qs : List Rw} {it it2 jt : Itm} {its jts : List Itm} {T : Nat → Prop} {f : FuncId} {args : Array Value}
theorem ST.rperm (X : ST w W hb m rs its) (p : rs.Perm qs) : ST w W hb m qs its := ⟨X.ln.perm p, X.ok, X.ap⟩
theorem LN.sub {S S' : Nat → Prop} (X : LN w W hb m rs S) (h : ∀ b, S' b → S b) : LN w W hb m rs S' := by
  obtain ⟨⟨h0, L, e1, e2, e3, e4⟩, h1, h2, h3, h4⟩ := X
  exact ⟨⟨h0, L, e1, e2, e3, fun b e => e4 b (h b e)⟩, h1, h2, h3, fun b e => h4 b (h b e)⟩
theorem ST.perm (X : ST w W hb m rs its) (p : its.Perm jts) : ST w W hb m rs jts :=
  ⟨X.ln.sub fun b ⟨i, hi, e⟩ => ⟨i, p.mem_iff.2 hi, e⟩, fun i hi => X.ok i (p.mem_iff.2 hi), p.pairwise X.ap (fun h b x y => h b y x)⟩
theorem ST.drop (X : ST w W hb m rs (it :: its)) : ST w W hb m rs its :=
  ⟨X.ln.sub fun b ⟨i, hi, e⟩ => ⟨i, List.mem_cons_of_mem _ hi, e⟩, fun i hi => X.ok i (List.mem_cons_of_mem _ hi), (List.pairwise_cons.1 X.ap).2⟩
theorem ST.keep (X : ST w W hb m rs its) {rs' : List Rw} {m2 : HM} (L : LN w W' hb m2 rs' (fun b => ∃ it ∈ its, it.fp b)) (hs : ∀ b, (∃ it ∈ its, it.fp b) → W'.heap[b]? = W.heap[b]?) : ST w W' hb m2 rs' its :=
  ⟨L, fun i hi => i.st _ _ (X.ok i hi) fun b e => hs b ⟨i, hi, e⟩, X.ap⟩
theorem ST.q (X : ST w W hb m rs its) : Q w W := X.ln.q
theorem ST.lt (X : ST w W hb m rs its) (hi : it ∈ its) : ∀ b, it.fp b → b < W.heap.size ∧ w.heap.size ≤ b := fun b e => ⟨(X.ln.ss b ⟨it, hi, e⟩).1, (X.ln.ss b ⟨it, hi, e⟩).2.1⟩
/-- one thing has turned -/
theorem ST.item (X : ST w W hb m rs (it :: its)) (hne : rs ≠ []) (t : Turn it.fp W W') (o : it2.ok W') (hn : ∀ b, it2.fp b → it.fp b ∨ (W.heap.size ≤ b ∧ b < W'.heap.size)) : ST w W' hb m rs (it2 :: its) := by
  have hap := List.pairwise_cons.1 X.ap
  refine ⟨X.ln.turn t (fun b e => ⟨it, List.mem_cons_self .., e⟩) hne fun b ⟨i, hi, e⟩ => ?_, fun i hi => ?_, List.pairwise_cons.2 ⟨fun i hi b e e' => ?_, hap.2⟩⟩
  · rcases List.mem_cons.1 hi with rfl | hi
    · exact (hn b e).imp (fun x => ⟨it, List.mem_cons_self .., x⟩) id
    · exact .inl ⟨i, List.mem_cons_of_mem _ hi, e⟩
  · rcases List.mem_cons.1 hi with rfl | hi
    · exact o
    · exact i.st _ _ (X.ok i (List.mem_cons_of_mem _ hi)) fun b e => t.block b (X.lt (List.mem_cons_of_mem _ hi) b e).1 fun x => hap.1 i hi b x e
  · rcases hn b e with x | ⟨x, -⟩
    · exact hap.1 i hi b x e'
    · have := (X.lt (List.mem_cons_of_mem _ hi) b e').1
      omega
/-- one thing has taken another's blocks -/
theorem ST.join (X : ST w W hb m rs (it :: jt :: its)) (hne : rs ≠ []) (t : Turn it.fp W W') (o : it2.ok W') (hn : ∀ b, it2.fp b → it.fp b ∨ jt.fp b) : ST w W' hb m rs (it2 :: its) := by
  have hap := List.pairwise_cons.1 X.ap
  have hap2 := List.pairwise_cons.1 hap.2
  refine ⟨X.ln.turn t (fun b e => ⟨it, List.mem_cons_self .., e⟩) hne fun b ⟨i, hi, e⟩ => .inl ?_, fun i hi => ?_, List.pairwise_cons.2 ⟨fun i hi b e e' => ?_, hap2.2⟩⟩
  · rcases List.mem_cons.1 hi with rfl | hi
    · exact (hn b e).elim (fun x => ⟨it, List.mem_cons_self .., x⟩) fun x => ⟨jt, List.mem_cons_of_mem _ (List.mem_cons_self ..), x⟩
    · exact ⟨i, List.mem_cons_of_mem _ (List.mem_cons_of_mem _ hi), e⟩
  · rcases List.mem_cons.1 hi with rfl | hi
    · exact o
    · exact i.st _ _ (X.ok i (List.mem_cons_of_mem _ (List.mem_cons_of_mem _ hi))) fun b e => t.block b (X.lt (List.mem_cons_of_mem _ (List.mem_cons_of_mem _ hi)) b e).1 fun x => hap.1 i (List.mem_cons_of_mem _ hi) b x e
  · rcases hn b e with x | x
    · exact hap.1 i (List.mem_cons_of_mem _ hi) b x e'
    · exact hap2.1 i hi b x e'
/-- a new thing -/
theorem ST.add (X : ST w W hb m rs its) (hne : rs ≠ []) (hq : Q W W') (o : it.ok W') (hn : ∀ b, it.fp b → W.heap.size ≤ b ∧ b < W'.heap.size) : ST w W' hb m rs (it :: its) := by
  have hb2 := hq.below.block
  refine ⟨X.ln.turn (T := fun _ => False) (.of_q hq) (fun b e => e.elim) hne fun b ⟨i, hi, e⟩ => ?_, fun i hi => ?_, List.pairwise_cons.2 ⟨fun i hi b e e' => ?_, X.ap⟩⟩
  · rcases List.mem_cons.1 hi with rfl | hi
    · exact .inr (hn b e)
    · exact .inl ⟨i, hi, e⟩
  · rcases List.mem_cons.1 hi with rfl | hi
    · exact o
    · exact i.st _ _ (X.ok i hi) fun b e => hb2 b (X.lt hi b e).1
  · have := (X.lt hi b e').1
    have := (hn b e).1
    omega
theorem ST.q' (X : ST w W hb m rs its) (hne : rs ≠ []) (hq : Q W W') : ST w W' hb m rs its :=
  X.keep (X.ln.q' hq hne) fun b ⟨i, hi, e⟩ => hq.below.block b (X.lt hi b e).1
/-- a call on the first rows -/
theorem ST.list (X : ST w W hb m (r :: rs) its) {P : Ending → World → HM → Rw → Prop} (hc : ∀ h, LR W h r → h.m = m → h.blk = hb → h.calls = m.calls → Calls Tryz.prog f args W fun e W' => ∃ m2 r2, LS W h r W' m2 r2 ∧ P e W' m2 r2) :
    Calls Tryz.prog f args W fun e W' => ∃ m2 r2, (ST w W' hb m2 (r2 :: rs) its ∧ r2.blk = r.blk ∧ r2.ty = r.ty) ∧ P e W' m2 r2 := by
  refine (X.ln.list hc).mono ?_
  rintro e W' ⟨m2, r2, ⟨hl, hb, ht, hs⟩, hP⟩
  exact ⟨m2, r2, ⟨X.keep hl hs, hb, ht⟩, hP⟩
theorem ST.act (X : ST w W hb m (r :: rs) its) {P : Ending → World → Prop} {m2 : HM} (hc : ∀ h, HpR W h → h.mu = 0 → h.m = m → h.blk = hb → h.calls = m.calls → Calls Tryz.prog f args W fun e W' => P e W' ∧ ∃ h2, Did W h W' h2 ∧ h2.mu = 0 ∧ h2.m = m2) :
    Calls Tryz.prog f args W fun e W' => P e W' ∧ ST w W' hb m2 (r :: rs) its := by
  refine (X.ln.act hc).mono ?_
  rintro e W' ⟨hP, hl, hs⟩
  exact ⟨hP, X.keep hl hs⟩
/-- a call on the first rows, those of a map whose keys' places are the first thing -/
theorem ST.map {nn n2 : Nat} {kv : List (Int × Int)} (X : ST w W hb m (r :: rs) (iK kb nn (keysOf kv) :: its)) {P : Ending → World → HM → Rw → List (Int × Int) → Prop}
    (hc : ∀ h n D, LR W h r → h.m = m → h.calls = m.calls → MS W h r kb W h.m r n D h → n ≤ nn → Wh D (keysOf kv) → Calls Tryz.prog f args W fun e W' => ∃ m2 r2 n' D' h2 zs, MS W h r kb W' m2 r2 n' D' h2 ∧ n' ≤ n2 ∧ Wh D' (keysOf zs) ∧ P e W' m2 r2 zs) :
    Calls Tryz.prog f args W fun e W' => ∃ m2 r2 zs, (ST w W' hb m2 (r2 :: rs) (iK kb n2 (keysOf zs) :: its) ∧ r2.blk = r.blk ∧ r2.ty = r.ty) ∧ P e W' m2 r2 zs := by
  have hap := List.pairwise_cons.1 X.ap
  have L : LN w W hb m (r :: rs) (fun b => (∃ it ∈ its, it.fp b) ∨ b = kb) := X.ln.sub fun b e => by
    rcases e with ⟨i, hi, e⟩ | e
    · exact ⟨i, List.mem_cons_of_mem _ hi, e⟩
    · exact ⟨_, List.mem_cons_self .., e⟩
  refine (L.map (fun ⟨i, hi, e⟩ => hap.1 i hi kb rfl e) (X.ok _ (List.mem_cons_self ..)) hc).mono ?_
  rintro e W' ⟨m2, r2, zs, ⟨hl, ho, hb, ht, hs⟩, hP⟩
  refine ⟨m2, r2, zs, ⟨⟨hl.sub fun b ⟨i, hi, e⟩ => ?_, fun i hi => ?_, List.pairwise_cons.2 ⟨fun i hi b e e' => hap.1 i hi b e e', hap.2⟩⟩, hb, ht⟩, hP⟩
  · rcases List.mem_cons.1 hi with rfl | hi
    · exact .inr e
    · exact .inl ⟨i, hi, e⟩
  · rcases List.mem_cons.1 hi with rfl | hi
    · exact ho
    · exact i.st _ _ (X.ok i (List.mem_cons_of_mem _ hi)) fun b e => hs b ⟨i, hi, e⟩
theorem ST.shut {nn : Nat} {kv : List (Int × Int)} (X : ST w W hb m (r :: rs) (iK kb nn (keysOf kv) :: its)) {P : Ending → HM → Rw → Prop}
    (hc : ∀ h n D, LR W h r → h.m = m → h.calls = m.calls → MS W h r kb W h.m r n D h → n ≤ nn → Wh D (keysOf kv) → Calls Tryz.prog f args W fun e W' => ∃ m2 r2 h2, MC W h r kb W' m2 r2 h2 ∧ P e m2 r2) :
    Calls Tryz.prog f args W fun e W' => ∃ m2 r2, ST w W' hb m2 (r2 :: rs) its ∧ P e m2 r2 := by
  have hap := List.pairwise_cons.1 X.ap
  have L : LN w W hb m (r :: rs) (fun b => (∃ it ∈ its, it.fp b) ∨ b = kb) := X.ln.sub fun b e => by
    rcases e with ⟨i, hi, e⟩ | e
    · exact ⟨i, List.mem_cons_of_mem _ hi, e⟩
    · exact ⟨_, List.mem_cons_self .., e⟩
  refine (L.shut (fun ⟨i, hi, e⟩ => hap.1 i hi kb rfl e) (X.ok _ (List.mem_cons_self ..)) hc).mono ?_
  rintro e W' ⟨m2, r2, hl, hs, hP⟩
  exact ⟨m2, r2, X.drop.keep hl hs, hP⟩
end
end Go.Proofs.YtdaklffbfadghaaGreat

namespace Go.Proofs.YtdaklffbfadghaaGreat
open Go.RowKit HP
set_option linter.unusedVariables false
set_option linter.unusedSimpArgs false
structure TS (w W : World) (hb lb pb qb kb : Nat) (m : HM) (r1 r2 r3 : Rw) (nn : Nat) (kv : List (Int × Int)) (its : List Itm) : Prop where
  st : ST w W hb m [r1, r2, r3] (iK kb nn (keysOf kv) :: its)
  b1 : r1.blk = lb
  b2 : r2.blk = pb
  b3 : r3.blk = qb
  ty : r3.ty = 124
  mo : r2.more = [.map (some kb)]
section
variable {w W W' : World} {hb lb pb qb kb nn k : Nat} {m m2 : HM} {r r1 r2 r3 : Rw} {kv zs us : List (Int × Int)} {xs : List Int} {its : List Itm} {it it2 : Itm} {f : FuncId} {args : Array Value} {Ls L2 : List (List Int)} {t : Int}
theorem TS.p1 (X : TS w W hb lb pb qb kb m r1 r2 r3 nn kv its) : r1.ptr = .pointer (some ⟨lb, 0, none⟩) := by unfold Rw.ptr; rw [X.b1]
theorem TS.p2 (X : TS w W hb lb pb qb kb m r1 r2 r3 nn kv its) : r2.ptr = .pointer (some ⟨pb, 0, none⟩) := by unfold Rw.ptr; rw [X.b2]
theorem TS.p3 (X : TS w W hb lb pb qb kb m r1 r2 r3 nn kv its) : r3.ptr = .pointer (some ⟨qb, 0, none⟩) := by unfold Rw.ptr; rw [X.b3]
theorem TS.q (X : TS w W hb lb pb qb kb m r1 r2 r3 nn kv its) (hq : Q W W') : TS w W' hb lb pb qb kb m r1 r2 r3 nn kv its := { X with st := X.st.q' (by simp) hq }
theorem TS.more {n2 : Nat} (X : TS w W hb lb pb qb kb m r1 r2 r3 nn kv its) (h : nn ≤ n2) : TS w W hb lb pb qb kb m r1 r2 r3 n2 kv its := by
  obtain ⟨n, D, h1, h2, h3⟩ := X.st.ok _ (List.mem_cons_self ..)
  exact { X with st := X.st.item (it2 := iK kb n2 (keysOf kv)) (by simp) (.refl _ _) ⟨n, D, h1, by omega, h3⟩ fun b e => .inl e }
theorem TS.c0 (X : TS w W hb lb pb qb kb m r1 r2 r3 nn kv its) {P : Ending → World → Prop} {m2 : HM} (hc : ∀ h, HpR W h → h.mu = 0 → h.m = m → h.blk = hb → h.calls = m.calls → Calls Tryz.prog f args W fun e W' => P e W' ∧ ∃ h2, Did W h W' h2 ∧ h2.mu = 0 ∧ h2.m = m2) :
    Calls Tryz.prog f args W fun e W' => P e W' ∧ TS w W' hb lb pb qb kb m2 r1 r2 r3 nn kv its := by
  refine (X.st.act hc).mono ?_
  rintro e W' ⟨hP, h⟩
  exact ⟨hP, h, X.b1, X.b2, X.b3, X.ty, X.mo⟩
theorem TS.c1 (X : TS w W hb lb pb qb kb m r1 r2 r3 nn kv its) {P : Ending → World → HM → Rw → Prop} (hc : ∀ h, LR W h r1 → h.m = m → h.calls = m.calls → Calls Tryz.prog f args W fun e W' => ∃ m2 r', LS W h r1 W' m2 r' ∧ P e W' m2 r') :
    Calls Tryz.prog f args W fun e W' => ∃ m2 r', TS w W' hb lb pb qb kb m2 r' r2 r3 nn kv its ∧ P e W' m2 r' := by
  refine (X.st.list fun h L e1 e2 e3 => hc h L e1 e3).mono ?_
  rintro e W' ⟨m2, r', ⟨h, hb, ht⟩, hP⟩
  exact ⟨m2, r', ⟨h, hb.trans X.b1, X.b2, X.b3, X.ty, X.mo⟩, hP⟩
theorem TS.c3 (X : TS w W hb lb pb qb kb m r1 r2 r3 nn kv its) {P : Ending → World → HM → Rw → Prop} (hc : ∀ h, LR W h r3 → h.m = m → h.calls = m.calls → Calls Tryz.prog f args W fun e W' => ∃ m2 r', LS W h r3 W' m2 r' ∧ P e W' m2 r') :
    Calls Tryz.prog f args W fun e W' => ∃ m2 r', TS w W' hb lb pb qb kb m2 r1 r2 r' nn kv its ∧ P e W' m2 r' := by
  have p : ∀ a b c : Rw, [a, b, c].Perm [c, a, b] := fun a b c => ((List.Perm.swap c b []).cons a).trans (List.Perm.swap c a [b])
  refine ((X.st.rperm (p r1 r2 r3)).list fun h L e1 e2 e3 => hc h L e1 e3).mono ?_
  rintro e W' ⟨m2, r', ⟨h, hb, ht⟩, hP⟩
  exact ⟨m2, r', ⟨h.rperm (p r1 r2 r').symm, X.b1, X.b2, hb.trans X.b3, ht.trans X.ty, X.mo⟩, hP⟩
theorem TS.c2 (X : TS w W hb lb pb qb kb m r1 r2 r3 nn kv its) {n2 : Nat} {P : Ending → World → HM → Rw → List (Int × Int) → Prop}
    (hc : ∀ h n D, LR W h r2 → h.m = m → h.calls = m.calls → MS W h r2 kb W h.m r2 n D h → n ≤ nn → Wh D (keysOf kv) → Calls Tryz.prog f args W fun e W' => ∃ m2 r' n' D' h2 zs, MS W h r2 kb W' m2 r' n' D' h2 ∧ n' ≤ n2 ∧ Wh D' (keysOf zs) ∧ r'.more = r2.more ∧ P e W' m2 r' zs) :
    Calls Tryz.prog f args W fun e W' => ∃ m2 r' zs, TS w W' hb lb pb qb kb m2 r1 r' r3 n2 zs its ∧ P e W' m2 r' zs := by
  have p : ∀ a b c : Rw, [a, b, c].Perm [b, a, c] := fun a b c => List.Perm.swap b a [c]
  refine ((X.st.rperm (p r1 r2 r3)).map (P := fun e W' m2 r' zs => r'.more = r2.more ∧ P e W' m2 r' zs) hc).mono ?_
  rintro e W' ⟨m2, r', zs, ⟨h, hb, ht⟩, hm, hP⟩
  exact ⟨m2, r', zs, ⟨h.rperm (p r1 r' r3).symm, X.b1, hb.trans X.b2, X.b3, X.ty, hm.trans X.mo⟩, hP⟩
/-! the program's -/
theorem ts_add (X : TS w W hb lb pb qb kb m r1 r2 r3 nn kv its) (S : LstR m r1 xs) (hc : m.calls < 1000000000) (n : Int) :
    Calls Tryz.prog 17 #[.pointer (some ⟨lb, 0, none⟩), .int .i64 n] W fun e W' => ∃ m2 r', TS w W' hb lb pb qb kb m2 r' r2 r3 nn kv its ∧ ∃ err, e = .returned (.int .i64 err) ∧ InsO m m2 r1 r' xs xs.length n err := by
  refine X.c1 (P := fun e W' m2 r' => ∃ err, e = .returned (.int .i64 err) ∧ InsO m m2 r1 r' xs xs.length n err) fun h L e1 e2 => ?_
  have := addL_any L (xs := xs) (by rw [e1]; exact S) (by rw [e2]; exact hc) n
  rw [X.p1, e1] at this
  refine this.mono ?_
  rintro e W' ⟨m', r', hX, err, he, O, -⟩
  exact ⟨m', r', hX, err, he, O⟩
theorem ts_rem (X : TS w W hb lb pb qb kb m r1 r2 r3 nn kv its) (S : LstR m r1 xs) (i : Int) :
    Calls Tryz.prog 19 #[.pointer (some ⟨lb, 0, none⟩), .int .i64 i] W fun e W' => ∃ m2 r', TS w W' hb lb pb qb kb m2 r' r2 r3 nn kv its ∧ ∃ x err, e = .returned (.tuple #[.int .i64 x, .int .i64 err]) ∧ RemO m m2 r1 r' xs i x err := by
  refine X.c1 (P := fun e W' m2 r' => ∃ x err, e = .returned (.tuple #[.int .i64 x, .int .i64 err]) ∧ RemO m m2 r1 r' xs i x err) fun h L e1 e2 => ?_
  have := removeL_any L (xs := xs) (by rw [e1]; exact S) i
  rw [X.p1, e1] at this
  refine this.mono ?_
  rintro e W' ⟨m', r', hX, x, err, he, O, -⟩
  exact ⟨m', r', hX, x, err, he, O⟩
theorem ts_all (X : TS w W hb lb pb qb kb m r1 r2 r3 nn kv its) (S : LstR m r1 xs) :
    Calls Tryz.prog 52 #[.pointer (some ⟨lb, 0, none⟩)] W fun e W' => ∃ v, e = .returned v ∧ TS w W' hb lb pb qb kb m r1 r2 r3 nn kv its ∧ W'.ownsRow W.heap.size 3 1 v xs.length (intsV xs) := by
  refine (X.c1 (P := fun e W' m2 r' => m2 = m ∧ r' = r1 ∧ ∃ v, e = .returned v ∧ W'.ownsRow W.heap.size 3 1 v xs.length (intsV xs)) fun h L e1 e2 => ?_).mono ?_
  · have := allL_any L (xs := xs) (by rw [e1]; exact S)
    rw [X.p1] at this
    refine this.mono ?_
    rintro e W' ⟨m', r', hX, h1, h2, v, he, ho, -⟩
    exact ⟨m', r', hX, h1.trans e1, h2, v, he, ho⟩
  · rintro e W' ⟨m2, r', hX, rfl, rfl, v, he, ho⟩
    exact ⟨v, he, hX, ho⟩
theorem ts_put (X : TS w W hb lb pb qb kb m r1 r2 r3 nn kv its) (S : MapR m r2 kv) (hc : m.calls < 1000000000) (hn : nn < 1000000) (x v : Int) :
    Calls Tryz.prog 21 #[.pointer (some ⟨pb, 0, none⟩), .int .i64 x, .int .i64 v] W fun e W' => ∃ m2 r' us, TS w W' hb lb pb qb kb m2 r1 r' r3 (nn + 1) us its ∧ ∃ old is err, e = .returned (.tuple #[.int .i64 old, .bool is, .int .i64 err]) ∧ PutO m m2 r2 r' kv us x v old is err := by
  have hmo := X.mo
  refine X.c2 (n2 := nn + 1) (P := fun e W' m2 r' us => ∃ old is err, e = .returned (.tuple #[.int .i64 old, .bool is, .int .i64 err]) ∧ PutO m m2 r2 r' kv us x v old is err) fun h n D L e1 e2 M hnn hW => ?_
  cases hf : fits2 (x, v) with
  | false =>
    have := putM_bad L S.op x v hf
    rw [X.p2] at this
    refine this.mono ?_
    rintro e W' ⟨he, hq⟩
    have M2 := M.q hq
    exact ⟨h.m, r2, n, D, h, kv, M2, by omega, hW, rfl, 0, false, 1, he, .inl ⟨hf, rfl, rfl, rfl, e1, rfl, rfl⟩⟩
  | true =>
    by_cases hk : x ∈ keysOf kv
    · obtain ⟨i, old, hi⟩ := at_key hk
      have := putM_found L (kv := kv) (by rw [e1]; exact S) M hmo hW x v hf i old hi
      rw [X.p2, e1] at this
      refine this.mono ?_
      rintro e W' ⟨he, m', h2, M2, O⟩
      exact ⟨m', r2, n, D, h2, kv.set i (x, v), M2, by omega, by rw [keys_set hi]; exact hW, rfl, old, true, 0, he, O⟩
    · have := putM_new L (kv := kv) (by rw [e1]; exact S) M hmo hW (by rw [e2]; exact hc) (by omega) x v hf hk
      rw [X.p2, e1] at this
      refine this.mono ?_
      rintro e W' ⟨ok, m', r', n', D2, h2, he, M2, hn2, hW2, hm2, O⟩
      exact ⟨m', r', n', D2, h2, _, M2, by omega, hW2, hm2, 0, false, _, he, O⟩
theorem ts_del (X : TS w W hb lb pb qb kb m r1 r2 r3 nn kv its) (S : MapR m r2 kv) (x : Int) :
    Calls Tryz.prog 23 #[.pointer (some ⟨pb, 0, none⟩), .int .i64 x] W fun e W' => ∃ m2 r' us, TS w W' hb lb pb qb kb m2 r1 r' r3 nn us its ∧ ∃ v is err, e = .returned (.tuple #[.int .i64 v, .bool is, .int .i64 err]) ∧ DelO m m2 r2 r' kv us x v is err := by
  have hmo := X.mo
  refine X.c2 (n2 := nn) (P := fun e W' m2 r' us => ∃ v is err, e = .returned (.tuple #[.int .i64 v, .bool is, .int .i64 err]) ∧ DelO m m2 r2 r' kv us x v is err) fun h n D L e1 e2 M hnn hW => ?_
  by_cases hk : fitsB x = false ∨ x ∉ keysOf kv
  · have := delM_none L (kv := kv) (by rw [e1]; exact S) M hmo hW x hk
    rw [X.p2] at this
    refine this.mono ?_
    rintro e W' ⟨he, h2, M2⟩
    refine ⟨h.m, r2, n, D, h2, kv, M2, hnn, hW, rfl, 0, false, _, he, ?_⟩
    rw [e1]
    cases hf : fitsB x with
    | false => exact .inl ⟨hf, rfl, rfl, rfl, rfl, rfl, rfl⟩
    | true =>
      rcases hk with h | h
      · rw [hf] at h; cases h
      · exact .inr (.inl ⟨hf, h, rfl, rfl, rfl, rfl, rfl, rfl⟩)
  · have hf : fitsB x = true := by
      cases h : fitsB x
      · exact absurd (.inl h) hk
      · rfl
    have hm : x ∈ keysOf kv := Classical.byContradiction fun h => hk (.inr h)
    obtain ⟨i, u, hi⟩ := at_key hm
    have := delM_found L (kv := kv) (by rw [e1]; exact S) M hmo hW x hf i u hi
    rw [X.p2, e1] at this
    refine this.mono ?_
    rintro e W' ⟨he, m', r', D2, h2, M2, hW2, hm2, O⟩
    exact ⟨m', r', n, D2, h2, _, M2, hnn, hW2, hm2, u, true, 0, he, O⟩
theorem ts_keys (X : TS w W hb lb pb qb kb m r1 r2 r3 nn kv its) (S : MapR m r2 kv) :
    Calls Tryz.prog 34 #[.pointer (some ⟨pb, 0, none⟩)] W fun e W' => ∃ v, e = .returned v ∧ TS w W' hb lb pb qb kb m r1 r2 r3 nn kv its ∧ W'.ownsRow W.heap.size 3 1 v kv.length (intsV (keysOf kv)) := by
  refine (X.c2 (n2 := nn) (P := fun e W' m2 r' us => m2 = m ∧ r' = r2 ∧ us = kv ∧ ∃ v, e = .returned v ∧ W'.ownsRow W.heap.size 3 1 v kv.length (intsV (keysOf kv))) fun h n D L e1 e2 M hnn hW => ?_).mono ?_
  · have := keysM_any L (kv := kv) (by rw [e1]; exact S) M X.mo
    rw [X.p2] at this
    refine this.mono ?_
    rintro e W' ⟨u, he, ho, h2, M2⟩
    exact ⟨h.m, r2, n, D, h2, kv, M2, hnn, hW, rfl, e1, rfl, rfl, u, he, ho⟩
  · rintro e W' ⟨m2, r', us, hX, rfl, rfl, rfl, v, he, ho⟩
    exact ⟨v, he, hX, ho⟩
theorem ts_push (X : TS w W hb lb pb qb kb m r1 r2 r3 nn kv its) (I : QI m r3 Ls zs t k) (hc : m.calls < 1000000000) (hk : k < 1000000) (n what : Int) :
    Calls Tryz.prog 25 #[.pointer (some ⟨qb, 0, none⟩), .int .i64 n, .int .i64 what] W fun e W' => ∃ m2 r', TS w W' hb lb pb qb kb m2 r1 r2 r' nn kv its ∧ ∃ L2 err t2, e = .returned (.int .i64 err) ∧ PushO m m2 r3 r' Ls L2 t n what err t2 := by
  refine X.c3 (P := fun e W' m2 r' => ∃ L2 err t2, e = .returned (.int .i64 err) ∧ PushO m m2 r3 r' Ls L2 t n what err t2) fun h L e1 e2 => ?_
  cases hf : fits2 (n, what) with
  | false =>
    have := push_bad L I.que.op n what hf
    rw [X.p3] at this
    refine this.mono ?_
    rintro e W' ⟨he, hq⟩
    exact ⟨h.m, r3, (LS.start L).q hq, Ls, 1, t, he, .inl ⟨hf, rfl, e1, rfl, rfl, rfl⟩⟩
  | true =>
    have := push_good L X.ty (Ls := Ls) (t := t) (by rw [e1]; exact I.que) I.ord (by rw [e2]; exact hc) ⟨I.t0, by have := I.tk; omega⟩ n what hf
    rw [X.p3, e1] at this
    refine this.mono ?_
    rintro e W' ⟨m', r', L2, err, t2, hX, he, O⟩
    exact ⟨m', r', hX, L2, err, t2, he, O⟩
theorem ts_peek (X : TS w W hb lb pb qb kb m r1 r2 r3 nn kv its) (I : QI m r3 Ls zs t k) :
    Calls Tryz.prog 53 #[.pointer (some ⟨qb, 0, none⟩)] W fun e W' => e = .returned (.tuple #[.int .i64 (lsP zs).1, .int .i64 (lsP zs).2, .bool (decide (0 < zs.length)), .int .i64 0]) ∧ TS w W' hb lb pb qb kb m r1 r2 r3 nn kv its := by
  have hv : lsP zs = nw (rw_ Ls 0) := by
    by_cases hl : 0 < zs.length
    · obtain ⟨i, -, -, -, h2, -⟩ := I.root hl
      exact h2
    · have e0 : zs = [] := List.eq_nil_of_length_eq_zero (by omega)
      have e1 : Ls = [] := List.eq_nil_of_length_eq_zero (by rw [I.len]; omega)
      rw [e0, e1]
      rfl
  refine (X.c3 (P := fun e W' m2 r' => e = .returned (.tuple #[.int .i64 (lsP zs).1, .int .i64 (lsP zs).2, .bool (decide (0 < zs.length)), .int .i64 0]) ∧ m2 = m ∧ r' = r3) fun h L e1 e2 => ?_).mono ?_
  · have := peek_any L X.ty (Ls := Ls) (t := t) (by rw [e1]; exact I.que)
    rw [X.p3, I.len, ← hv] at this
    refine this.mono ?_
    rintro e W' ⟨hX, he⟩
    exact ⟨h.m, r3, hX, he, e1, rfl⟩
  · rintro e W' ⟨m2, r', hX, he, rfl, rfl⟩
    exact ⟨he, hX⟩
theorem ts_len (X : TS w W hb lb pb qb kb m r1 r2 r3 nn kv its) (I : QI m r3 Ls zs t k) :
    Calls Tryz.prog 56 #[.pointer (some ⟨qb, 0, none⟩)] W fun e W' => e = .returned (.int .i64 (zs.length : Int)) ∧ TS w W' hb lb pb qb kb m r1 r2 r3 nn kv its := by
  refine (X.c3 (P := fun e W' m2 r' => e = .returned (.int .i64 (zs.length : Int)) ∧ m2 = m ∧ r' = r3) fun h L e1 e2 => ?_).mono ?_
  · have := lenQ_any L (Ls := Ls) (t := t) (by rw [e1]; exact I.que)
    rw [X.p3, I.len] at this
    refine this.mono ?_
    rintro e W' ⟨hX, he⟩
    exact ⟨h.m, r3, hX, he, e1, rfl⟩
  · rintro e W' ⟨m2, r', hX, he, rfl, rfl⟩
    exact ⟨he, hX⟩
/-- an act on the queue leaves this: it is as it was, or its first is gone -/
theorem ts_pop {ya : List Int} {kv2 B : List (Int × Int)} {Hs : List (Int × Int × Int)} (X : TS w W hb lb pb qb kb m r1 r2 r3 nn kv its) (P : P3 m r1 r2 r3 ya kv2 zs B Hs k) :
    Calls Tryz.prog 27 #[.pointer (some ⟨qb, 0, none⟩)] W fun e W' => e = .returned (.tuple #[.int .i64 (lsP zs).1, .int .i64 (lsP zs).2, .bool (decide (0 < zs.length)), .int .i64 0]) ∧ ∃ m2 r', TS w W' hb lb pb qb kb m2 r1 r2 r' nn kv its ∧ Act3 m2 r1 r2 r' ya kv2 zs ya kv2 (popY zs) B Hs k 0 0 := by
  obtain ⟨Ls, t, I⟩ := P.qu
  by_cases hl : 0 < zs.length
  · obtain ⟨i, e0, hi, h1, h2, h3, h4⟩ := I.root hl
    rw [h2, show decide (0 < zs.length) = true by simpa using hl]
    refine (X.c3 (P := fun e W' m2 r' => e = .returned (.tuple #[.int .i64 (nw (rw_ Ls 0)).1, .int .i64 (nw (rw_ Ls 0)).2, .bool true, .int .i64 0]) ∧ Act3 m2 r1 r2 r' ya kv2 zs ya kv2 (popY zs) B Hs k 0 0) fun h L e1 e2 => ?_).mono ?_
    · have := pop_some L X.ty (Ls := Ls) (t := t) (by rw [e1]; exact I.que) I.ord (zs.length - 1) (by rw [I.len]; omega)
      rw [X.p3, e1] at this
      refine this.mono ?_
      rintro e W' ⟨m', r', L2, hX, he, S2, D, hp, ho⟩
      exact ⟨m', r', hX, he, t_pop P I hl S2 D hp ho⟩
    · rintro e W' ⟨m2, r', hX, he, hA⟩
      exact ⟨he, m2, r', hX, hA⟩
  · have e0 : zs = [] := List.eq_nil_of_length_eq_zero (by omega)
    have hv : lsP zs = (0, 0) := by unfold lsP; rw [if_neg hl]
    have hy : popY zs = zs := by unfold popY; rw [if_neg hl]
    rw [hv, hy, show decide (0 < zs.length) = false by simpa using hl]
    refine (X.c3 (P := fun e W' m2 r' => e = .returned (.tuple #[.int .i64 0, .int .i64 0, .bool false, .int .i64 0]) ∧ m2 = m ∧ r' = r3) fun h L e1 e2 => ?_).mono ?_
    · have := pop_none L X.ty (Ls := Ls) (t := t) (by rw [e1]; exact I.que) (by rw [I.len]; exact hl)
      rw [X.p3] at this
      refine this.mono ?_
      rintro e W' ⟨hX, he⟩
      exact ⟨h.m, r3, hX, he, e1, rfl⟩
    · rintro e W' ⟨m2, r', hX, he, rfl, rfl⟩
      exact ⟨he, _, _, hX, t_idle P⟩
theorem ts_fail (X : TS w W hb lb pb qb kb m r1 r2 r3 nn kv its) (I : Inv m) (a : Int) :
    Calls Tryz.prog 29 #[.pointer (some ⟨hb, 0, none⟩), .int .i64 a] W fun e W' => e = .returned (.int .i64 (failAtM m a).2) ∧ TS w W' hb lb pb qb kb (failAtM m a).1 r1 r2 r3 nn kv its := by
  refine X.c0 (P := fun e W' => e = .returned (.int .i64 (failAtM m a).2)) fun h H hmu e1 e2 e3 => ?_
  have := failAt_act h a W H (by rw [e1]; exact I) hmu
  rw [e1, show h.ptr = .pointer (some ⟨hb, 0, none⟩) by unfold Hp.ptr; rw [e2]] at this
  refine this.mono ?_
  rintro e W' ⟨h2, he, D, hmu2, hm2⟩
  exact ⟨he, h2, D, hmu2, hm2⟩
end
end Go.Proofs.YtdaklffbfadghaaGreat

namespace Go.Proofs.YtdaklffbfadghaaGreat
open Go.RowKit HP
set_option linter.unusedVariables false
set_option linter.unusedSimpArgs false
section
variable {W : World} {B nb : Nat} {vk vv : Value} {ys : List (Int × Int)}
theorem putR_all (X : OM W B nb vk vv (keysOf ys) (valsOf ys)) (hsz : B ≤ W.heap.size) (nd : (keysOf ys).Nodup) (hn : ys.length ≤ 64) (x v : Int) :
    Calls Tryz.prog 22 #[.pointer (some ⟨nb, 0, none⟩), .int .i64 x, .int .i64 v] W fun e W' => e = .returned (.tuple #[.int .i64 (ptV ys x v), .bool (ptB ys x v), .int .i64 (ptE ys x v)]) ∧ OMok W B nb vk vv (keysOf (ptY ys x v)) (valsOf (ptY ys x v)) W' := by
  cases hf : fits2 (x, v) with
  | false =>
    have e : ptE ys x v = 1 := by unfold ptE; rw [if_pos hf]
    have eb : ptB ys x v = false := by unfold ptB; rw [hf]; rfl
    have ev : ptV ys x v = 0 := by unfold ptV; rw [eb]; rfl
    have ey : ptY ys x v = ys := by unfold ptY; rw [e, if_neg (by decide)]
    rw [e, eb, ev, ey]
    refine (putR_bad X x v hf).mono ?_
    rintro e W' ⟨he, hq⟩
    exact ⟨he, OMok.refl X hq⟩
  | true =>
    by_cases hk : x ∈ keysOf ys
    · obtain ⟨i, old, hi⟩ := at_key hk
      have hil := (List.getElem?_eq_some_iff.1 hi).1
      have ef := fk_at nd (keys_at hi)
      have e0 : 0 ≤ fkI (keysOf ys) x := by rw [ef]; omega
      have e : ptE ys x v = 0 := by unfold ptE; rw [if_neg (by rw [hf]; decide), if_pos e0]
      have eb : ptB ys x v = true := by unfold ptB; rw [hf]; simpa using e0
      have ev : ptV ys x v = (valsOf ys).getD i 0 := by unfold ptV; rw [eb, if_pos rfl, ef, Int.toNat_natCast]
      have ey : ptY ys x v = ys.set i (x, v) := by unfold ptY; rw [e, if_pos rfl, if_pos e0, ef, Int.toNat_natCast]
      rw [e, eb, ev, ey]
      refine (putR_found X (by omega) x v hf i ef hil).mono ?_
      rintro e W' ⟨he, hr⟩
      refine ⟨he, ?_⟩
      rw [keys_set hi, show valsOf (ys.set i (x, v)) = (valsOf ys).set i v by unfold valsOf; rw [List.map_set]]
      exact hr
    · have ef := fk_no hk
      have e0 : ¬ 0 ≤ fkI (keysOf ys) x := by rw [ef]; omega
      have eb : ptB ys x v = false := by unfold ptB; rw [hf]; simpa using e0
      have ev : ptV ys x v = 0 := by unfold ptV; rw [eb]; rfl
      rw [eb, ev]
      by_cases hl : 64 ≤ ys.length
      · have e : ptE ys x v = 3 := by unfold ptE; rw [if_neg (by rw [hf]; decide), if_neg e0, if_pos hl]
        have ey : ptY ys x v = ys := by unfold ptY; rw [e, if_neg (by decide)]
        rw [e, ey]
        refine (putR_full X (by omega) x v hf e0 hl).mono ?_
        rintro e W' ⟨he, hq⟩
        exact ⟨he, OMok.refl X hq⟩
      · have e : ptE ys x v = 0 := by unfold ptE; rw [if_neg (by rw [hf]; decide), if_neg e0, if_neg hl]
        have ey : ptY ys x v = ys ++ [(x, v)] := by unfold ptY; rw [e, if_pos rfl, if_neg e0]
        rw [e, ey]
        refine (putR_new X hsz x v hf e0 (by omega)).mono ?_
        rintro e W' ⟨he, hr⟩
        refine ⟨he, ?_⟩
        rw [show keysOf (ys ++ [(x, v)]) = keysOf ys ++ [x] by unfold keysOf; rw [List.map_append]; rfl, show valsOf (ys ++ [(x, v)]) = valsOf ys ++ [v] by unfold valsOf; rw [List.map_append]; rfl]
        exact hr
theorem delR_all (X : OM W B nb vk vv (keysOf ys) (valsOf ys)) (hsz : B ≤ W.heap.size) (nd : (keysOf ys).Nodup) (hn : ys.length ≤ 64) (x : Int) :
    Calls Tryz.prog 24 #[.pointer (some ⟨nb, 0, none⟩), .int .i64 x] W fun e W' => e = .returned (.tuple #[.int .i64 (gtV ys x), .bool (gtB ys x), .int .i64 (gtE x)]) ∧ OMok W B nb vk vv (keysOf (dlY ys x)) (valsOf (dlY ys x)) W' := by
  cases hb : gtB ys x with
  | false =>
    have ev : gtV ys x = 0 := if_neg fun h => by
      unfold gtB at hb
      rw [h.1] at hb
      simp [h.2] at hb
    have ey : dlY ys x = ys := by unfold dlY; rw [hb]; rfl
    rw [ev, ey]
    refine (delR_none X (by omega) x hb).mono ?_
    rintro e W' ⟨he, hq⟩
    exact ⟨he, OMok.refl X hq⟩
  | true =>
    have hb2 := hb
    unfold gtB at hb2
    rw [Bool.and_eq_true] at hb2
    obtain ⟨hf, h0⟩ := hb2
    have h0 : 0 ≤ fkI (keysOf ys) x := by simpa using h0
    have hm : x ∈ keysOf ys := Classical.byContradiction fun h => by rw [fk_no h] at h0; omega
    obtain ⟨i, u, hi⟩ := at_key hm
    have hil := (List.getElem?_eq_some_iff.1 hi).1
    have ef := fk_at nd (keys_at hi)
    have ev : gtV ys x = (valsOf ys).getD i 0 := by unfold gtV; rw [if_pos ⟨hf, h0⟩, ef, Int.toNat_natCast]
    have ee : gtE x = 0 := by unfold gtE; rw [hf]; rfl
    have ey : dlY ys x = delAt ys i 1 := by unfold dlY; rw [hb, if_pos rfl, ef, Int.toNat_natCast]
    rw [ev, ee, ey]
    refine (delR_found X hsz (by omega) x hf i ef hil).mono ?_
    rintro e W' ⟨he, hr⟩
    refine ⟨he, ?_⟩
    rw [show keysOf (delAt ys i 1) = delAt (keysOf ys) i 1 by unfold keysOf; rw [delAt_map], show valsOf (delAt ys i 1) = delAt (valsOf ys) i 1 by unfold valsOf; rw [delAt_map]]
    exact hr
theorem pushR_all (X : OQ W B nb vk vv (keysOf ys) (valsOf ys)) (hsz : B ≤ W.heap.size) (hn : ys.length ≤ 64) (n what : Int) :
    Calls Tryz.prog 26 #[.pointer (some ⟨nb, 0, none⟩), .int .i64 n, .int .i64 what] W fun e W' => e = .returned (.int .i64 (psE ys n what)) ∧ OQok W B nb vk vv (keysOf (psY ys n what)) (valsOf (psY ys n what)) W' := by
  cases hf : fits2 (n, what) with
  | false =>
    have e : psE ys n what = 1 := by unfold psE; rw [if_pos hf]
    have ey : psY ys n what = ys := by unfold psY; rw [e, if_neg (by decide)]
    rw [e, ey]
    refine (pushR_bad X n what hf).mono ?_
    rintro e W' ⟨he, hq⟩
    exact ⟨he, OQok.refl X hq⟩
  | true =>
    by_cases hl : 64 ≤ ys.length
    · have e : psE ys n what = 3 := by unfold psE; rw [if_neg (by rw [hf]; decide), if_pos hl]
      have ey : psY ys n what = ys := by unfold psY; rw [e, if_neg (by decide)]
      rw [e, ey]
      refine (pushR_full X (by omega) n what hf hl).mono ?_
      rintro e W' ⟨he, hq⟩
      exact ⟨he, OQok.refl X hq⟩
    · have e : psE ys n what = 0 := by unfold psE; rw [if_neg (by rw [hf]; decide), if_neg hl]
      have ey : psY ys n what = ys ++ [(n, what)] := by unfold psY; rw [e, if_pos rfl]
      rw [e, ey]
      refine (pushR_new X hsz n what hf (by omega)).mono ?_
      rintro e W' ⟨he, hr⟩
      refine ⟨he, ?_⟩
      rw [show keysOf (ys ++ [(n, what)]) = keysOf ys ++ [n] by unfold keysOf; rw [List.map_append]; rfl, show valsOf (ys ++ [(n, what)]) = valsOf ys ++ [what] by unfold valsOf; rw [List.map_append]; rfl]
      exact hr
end
section
variable {w W W' : World} {hb lb pb qb kb nn k nb g c : Nat} {m m2 : HM} {r r1 r2 r3 : Rw} {kv zs us : List (Int × Int)} {xs ys : List Int} {its jts : List Itm} {it it2 jt : Itm} {vk vv : Value}
theorem TS.perm (X : TS w W hb lb pb qb kb m r1 r2 r3 nn kv its) (p : its.Perm jts) : TS w W hb lb pb qb kb m r1 r2 r3 nn kv jts := { X with st := X.st.perm (p.cons _) }
theorem TS.size (X : TS w W hb lb pb qb kb m r1 r2 r3 nn kv its) : w.heap.size ≤ W.heap.size := X.st.q.size
theorem TS.ok (X : TS w W hb lb pb qb kb m r1 r2 r3 nn kv (it :: its)) : it.ok W := X.st.ok _ (List.mem_cons_of_mem _ (List.mem_cons_self ..))
theorem TS.item (X : TS w W hb lb pb qb kb m r1 r2 r3 nn kv (it :: its)) (t : Turn it.fp W W') (o : it2.ok W') (hn : ∀ b, it2.fp b → it.fp b ∨ (W.heap.size ≤ b ∧ b < W'.heap.size)) : TS w W' hb lb pb qb kb m r1 r2 r3 nn kv (it2 :: its) :=
  { X with st := ((X.st.perm (List.Perm.swap ..)).item (by simp) t o hn).perm (List.Perm.swap ..) }
theorem TS.join (X : TS w W hb lb pb qb kb m r1 r2 r3 nn kv (it :: jt :: its)) (t : Turn it.fp W W') (o : it2.ok W') (hn : ∀ b, it2.fp b → it.fp b ∨ jt.fp b) : TS w W' hb lb pb qb kb m r1 r2 r3 nn kv (it2 :: its) :=
  { X with st := ((X.st.perm ((List.Perm.swap ..).trans ((List.Perm.swap ..).cons _))).join (by simp) t o hn).perm (List.Perm.swap ..) }
theorem TS.add (X : TS w W hb lb pb qb kb m r1 r2 r3 nn kv its) (hq : Q W W') (o : it.ok W') (hn : ∀ b, it.fp b → W.heap.size ≤ b ∧ b < W'.heap.size) : TS w W' hb lb pb qb kb m r1 r2 r3 nn kv (it :: its) :=
  { X with st := (X.st.add (by simp) hq o hn).perm (List.Perm.swap ..) }
theorem TS.drop (X : TS w W hb lb pb qb kb m r1 r2 r3 nn kv (it :: its)) : TS w W hb lb pb qb kb m r1 r2 r3 nn kv its := { X with st := (X.st.perm (List.Perm.swap ..)).drop }
theorem TS.lref (X : TS w W hb lb pb qb kb m r1 r2 r3 nn kv (iL w.heap.size nb vk xs :: its)) (hr : RefOk W nb ys W') : ∃ v4, TS w W' hb lb pb qb kb m r1 r2 r3 nn kv (iL w.heap.size nb v4 ys :: its) := by
  obtain ⟨v4, h4, o4, t⟩ := hr
  have hsz := X.size
  refine ⟨v4, X.item (t.wide fun _ _ e => .inl e) ⟨h4, own_low o4 hsz⟩ fun b e => ?_⟩
  rcases e with e | e
  · exact .inl (.inl e)
  · exact .inr (o4.lt b e)
theorem tr_ins (X : TS w W hb lb pb qb kb m r1 r2 r3 nn kv (iL w.heap.size nb (.slice (some ⟨g, 0, none⟩) xs.length c) xs :: its)) (hn : xs.length ≤ 1000) (i n : Int) :
    Calls Tryz.prog 18 #[.pointer (some ⟨nb, 0, none⟩), .int .i64 i, .int .i64 n] W fun e W' => e = .returned (.int .i64 (insP xs i n)) ∧ ∃ v4, TS w W' hb lb pb qb kb m r1 r2 r3 nn kv (iL w.heap.size nb v4 (insY xs i n) :: its) := by
  have R : RL W nb g c xs := ⟨X.ok.1, own_low X.ok.2 (Nat.zero_le _)⟩
  by_cases h : insP xs i n = 0
  · refine (insertR_ok R i n h).mono ?_
    rintro e W' ⟨he, hr⟩
    rw [h]
    unfold insY
    rw [if_pos h]
    exact ⟨he, X.lref hr⟩
  · refine (insertR_bad R hn i n h).mono ?_
    rintro e W' ⟨he, hq⟩
    unfold insY
    rw [if_neg h]
    exact ⟨he, _, X.q hq⟩
theorem tr_rem (X : TS w W hb lb pb qb kb m r1 r2 r3 nn kv (iL w.heap.size nb (.slice (some ⟨g, 0, none⟩) xs.length c) xs :: its)) (hn : xs.length ≤ 1000) (i : Int) :
    Calls Tryz.prog 20 #[.pointer (some ⟨nb, 0, none⟩), .int .i64 i] W fun e W' => e = .returned (.tuple #[.int .i64 (remV xs i), .int .i64 (askE xs i)]) ∧ ∃ v4, TS w W' hb lb pb qb kb m r1 r2 r3 nn kv (iL w.heap.size nb v4 (remY xs i) :: its) := by
  have R : RL W nb g c xs := ⟨X.ok.1, own_low X.ok.2 (Nat.zero_le _)⟩
  by_cases h1 : 0 ≤ i ∧ i < (xs.length : Int)
  · have h1' := h1
    obtain ⟨j, rfl⟩ : ∃ j : Nat, i = (j : Int) := ⟨i.toNat, by omega⟩
    obtain ⟨x, hx⟩ : ∃ x, xs[j]? = some x := ⟨xs[j]'(by omega), List.getElem?_eq_getElem _⟩
    refine (removeR_ok R hn j hx).mono ?_
    rintro e W' ⟨he, hr⟩
    rw [remV_of h1' hx, show askE xs j = 0 from if_pos h1', show remY xs j = delAt xs j 1 from if_pos h1']
    exact ⟨he, X.lref hr⟩
  · refine (removeR_bad R hn i h1).mono ?_
    rintro e W' ⟨he, hq⟩
    rw [show remV xs i = 0 from if_neg h1, show askE xs i = 4 from if_neg h1, show remY xs i = xs from if_neg h1]
    exact ⟨he, _, X.q hq⟩
theorem TS.mref (X : TS w W hb lb pb qb kb m r1 r2 r3 nn kv (iM w.heap.size nb vk vv zs :: its)) (hr : OMok W w.heap.size nb vk vv (keysOf us) (valsOf us) W') : ∃ v4 v5, TS w W' hb lb pb qb kb m r1 r2 r3 nn kv (iM w.heap.size nb v4 v5 us :: its) := by
  obtain ⟨v4, v5, X4, t, hn⟩ := hr
  exact ⟨v4, v5, X.item t X4 fun b e => (hn b e).imp id fun x => ⟨x, X4.lt b e⟩⟩
theorem TS.qref (X : TS w W hb lb pb qb kb m r1 r2 r3 nn kv (iQ w.heap.size nb vk vv zs :: its)) (hr : OQok W w.heap.size nb vk vv (keysOf us) (valsOf us) W') : ∃ v4 v5, TS w W' hb lb pb qb kb m r1 r2 r3 nn kv (iQ w.heap.size nb v4 v5 us :: its) := by
  obtain ⟨v4, v5, X4, t, hn⟩ := hr
  exact ⟨v4, v5, X.item t X4 fun b e => (hn b e).imp id fun x => ⟨x, X4.lt b e⟩⟩
theorem tr_put (X : TS w W hb lb pb qb kb m r1 r2 r3 nn kv (iM w.heap.size nb vk vv zs :: its)) (nd : (keysOf zs).Nodup) (hn : zs.length ≤ 64) (x v : Int) :
    Calls Tryz.prog 22 #[.pointer (some ⟨nb, 0, none⟩), .int .i64 x, .int .i64 v] W fun e W' => e = .returned (.tuple #[.int .i64 (ptV zs x v), .bool (ptB zs x v), .int .i64 (ptE zs x v)]) ∧ ∃ v4 v5, TS w W' hb lb pb qb kb m r1 r2 r3 nn kv (iM w.heap.size nb v4 v5 (ptY zs x v) :: its) := by
  refine (putR_all X.ok X.size nd hn x v).mono ?_
  rintro e W' ⟨he, hr⟩
  exact ⟨he, X.mref hr⟩
theorem tr_del (X : TS w W hb lb pb qb kb m r1 r2 r3 nn kv (iM w.heap.size nb vk vv zs :: its)) (nd : (keysOf zs).Nodup) (hn : zs.length ≤ 64) (x : Int) :
    Calls Tryz.prog 24 #[.pointer (some ⟨nb, 0, none⟩), .int .i64 x] W fun e W' => e = .returned (.tuple #[.int .i64 (gtV zs x), .bool (gtB zs x), .int .i64 (gtE x)]) ∧ ∃ v4 v5, TS w W' hb lb pb qb kb m r1 r2 r3 nn kv (iM w.heap.size nb v4 v5 (dlY zs x) :: its) := by
  refine (delR_all X.ok X.size nd hn x).mono ?_
  rintro e W' ⟨he, hr⟩
  exact ⟨he, X.mref hr⟩
theorem tr_push (X : TS w W hb lb pb qb kb m r1 r2 r3 nn kv (iQ w.heap.size nb vk vv zs :: its)) (hn : zs.length ≤ 64) (n what : Int) :
    Calls Tryz.prog 26 #[.pointer (some ⟨nb, 0, none⟩), .int .i64 n, .int .i64 what] W fun e W' => e = .returned (.int .i64 (psE zs n what)) ∧ ∃ v4 v5, TS w W' hb lb pb qb kb m r1 r2 r3 nn kv (iQ w.heap.size nb v4 v5 (psY zs n what) :: its) := by
  refine (pushR_all X.ok X.size hn n what).mono ?_
  rintro e W' ⟨he, hr⟩
  exact ⟨he, X.qref hr⟩
theorem tr_pop (X : TS w W hb lb pb qb kb m r1 r2 r3 nn kv (iQ w.heap.size nb vk vv zs :: its)) (hn : zs.length ≤ 64) :
    Calls Tryz.prog 28 #[.pointer (some ⟨nb, 0, none⟩)] W fun e W' => e = .returned (.tuple #[.int .i64 (lsP zs).1, .int .i64 (lsP zs).2, .bool (decide (0 < zs.length))]) ∧ ∃ v4 v5, TS w W' hb lb pb qb kb m r1 r2 r3 nn kv (iQ w.heap.size nb v4 v5 (popY zs) :: its) := by
  refine (oq_pop X.ok X.size hn).mono ?_
  rintro e W' ⟨he, hr⟩
  exact ⟨he, X.qref hr⟩
/-! the heap's own words -/
theorem ts_live (X : TS w W hb lb pb qb kb m r1 r2 r3 nn kv its) (I : Inv m) :
    Calls Tryz.prog 12 #[.pointer (some ⟨hb, 0, none⟩)] W fun e W' => (∃ A c, e = .returned (.slice A (stretches m).length c) ∧ Sl 2 encP W' A (stretches m).length c (stretches m)) ∧ TS w W' hb lb pb qb kb m r1 r2 r3 nn kv its := by
  refine X.c0 (P := fun e W' => ∃ A c, e = .returned (.slice A (stretches m).length c) ∧ Sl 2 encP W' A (stretches m).length c (stretches m)) fun h H hmu e1 e2 e3 => ?_
  have := live_act h W H (by rw [e1]; exact I) hmu
  rw [show h.ptr = .pointer (some ⟨hb, 0, none⟩) by unfold Hp.ptr; rw [e2]] at this
  refine this.mono ?_
  rintro e W' ⟨v, h2, he, ho, D, hmu2, hm2⟩
  have hl : (stretches h.m).length = h.bks.length := by unfold stretches Hp.m; simp
  rw [← hl] at ho
  rw [e1] at ho hm2
  obtain ⟨A, c, ev, hS⟩ := str_sl ho
  subst ev
  exact ⟨⟨A, c, he, hS⟩, h2, D, hmu2, hm2⟩
end
end Go.Proofs.YtdaklffbfadghaaGreat

namespace Go.Proofs.YtdaklffbfadghaaGreat
open Go.RowKit
set_option linter.unusedVariables false
set_option linter.unusedSimpArgs false
namespace Ri
/-- what an operation may know of another one; those of nk know of the fixed ones only -/
def gotN (l : List Oper) (loud fixed nk : List Nat) (k j : Nat) : Bool := gotB l loud fixed k j && (isIn fixed j || !isIn nk k)
theorem gotN_dep {l : List Oper} {loud fixed nk : List Nat} {k j : Nat} (h : gotN l loud fixed nk k j = true) : dep l.toArray l.length k j = true := by
  unfold gotN at h
  rw [Bool.and_eq_true] at h
  exact got_dep h.1
def useN (l : List Oper) (loud fixed nk : List Nat) : Bool :=
  loud.all fun k => (List.range l.length).all fun j => j == k || isIn fixed j || dep l.toArray l.length j k || (List.range l.length).all fun i => !gotN l loud fixed nk i j || i == k || dep l.toArray l.length k i
theorem useN_of {l : List Oper} {loud fixed nk : List Nat} (h : useN l loud fixed nk = true) {k j : Nat} (hk : isIn loud k = true) (hj : j < l.length) (hne : j ≠ k) (hf : isIn fixed j = false) (hw : dep l.toArray l.length j k = false) : ∀ i, i < l.length → gotN l loud fixed nk i j = true → i = k ∨ dep l.toArray l.length k i = true := fun i hi hd => by
  have h1 := List.all_eq_true.1 h k (by simpa [isIn] using hk)
  have h2 := List.all_eq_true.1 h1 j (List.mem_range.2 hj)
  have e : (j == k) = false := by simpa using hne
  rw [e, hf, hw, Bool.false_or, Bool.false_or, Bool.false_or] at h2
  have h3 := List.all_eq_true.1 h2 i (List.mem_range.2 hi)
  rw [hd] at h3
  simpa using h3
/-- what is to be shown of an operation -/
abbrev StepY (C : (Nat → Bool) → (Nat → Value) → World → Prop) (loud fixed nk : List Nat) (P : Program) (R : Exit → Act → World → Prop) (l : List Oper) (a : Act) (φ : Nat → Value → World → Prop) (k : Nat) (o : Oper) : Prop :=
  ∀ (S : Nat → Bool) (f : Nat → Value) (w : World), S k = false → (∀ j, dep l.toArray l.length k j = true → S j = true) → C S f w → (∀ j, gotN l loud fixed nk k j = true → φ j (f j) w) → ∀ A : Act, (∀ d i, ((l[i]?).bind (·.dst)) = some d → d < a.tmps.size → A.eval (.tmp d) = f i) → (∀ d, apartD (some d) l = true → A.eval (.tmp d) = a.eval (.tmp d)) → (∀ j, dep l.toArray l.length j k = true → S j = false ∧ f j = old a l j) →
      (Want l a f o true ∧ o.wp P A w (fun a' w' => ∃ v, a' = A.put o.dst v ∧ (if isIn loud k then C (upd S k true) (upd f k v) w' else Q w w') ∧ φ k v w') R) ∨ (Want l a f o false ∧ isIn loud k = false ∧ φ k undef w)
section
variable {C : (Nat → Bool) → (Nat → Value) → World → Prop} {loud fixed nk : List Nat} {P : Program} {R : Exit → Act → World → Prop} {l : List Oper} {a : Act} {φ : Nat → Value → World → Prop} {k g d : Nat} {b : Bool} {o : Oper}
/-- a quiet operation, not guarded -/
theorem StepY.q (hk : isIn loud k = false) (hg : o.guard = none)
    (h : ∀ (S : Nat → Bool) (f : Nat → Value) (w : World), S k = false → (∀ j, dep l.toArray l.length k j = true → S j = true) → C S f w → (∀ j, gotN l loud fixed nk k j = true → φ j (f j) w) → ∀ A : Act, (∀ d i, ((l[i]?).bind (·.dst)) = some d → d < a.tmps.size → A.eval (.tmp d) = f i) → (∀ d, apartD (some d) l = true → A.eval (.tmp d) = a.eval (.tmp d)) → (∀ j, dep l.toArray l.length j k = true → S j = false ∧ f j = old a l j) → o.wp P A w (fun a' w' => ∃ v, a' = A.put o.dst v ∧ Q w w' ∧ φ k v w') R) : StepY C loud fixed nk P R l a φ k o := fun S f w h1 h2 hc hf A hA hB hO =>
  .inl ⟨.inl ⟨rfl, hg⟩, Oper.wp_mono (fun a' w' ⟨v, e, hq, hp⟩ => ⟨v, e, by rw [hk]; exact hq, hp⟩) (h S f w h1 h2 hc hf A hA hB hO)⟩
/-- a loud operation, not guarded -/
theorem StepY.c (hk : isIn loud k = true) (hg : o.guard = none)
    (h : ∀ (S : Nat → Bool) (f : Nat → Value) (w : World), S k = false → (∀ j, dep l.toArray l.length k j = true → S j = true) → C S f w → (∀ j, gotN l loud fixed nk k j = true → φ j (f j) w) → ∀ A : Act, (∀ d i, ((l[i]?).bind (·.dst)) = some d → d < a.tmps.size → A.eval (.tmp d) = f i) → (∀ d, apartD (some d) l = true → A.eval (.tmp d) = a.eval (.tmp d)) → (∀ j, dep l.toArray l.length j k = true → S j = false ∧ f j = old a l j) → o.wp P A w (fun a' w' => ∃ v, a' = A.put o.dst v ∧ C (upd S k true) (upd f k v) w' ∧ φ k v w') R) : StepY C loud fixed nk P R l a φ k o := fun S f w h1 h2 hc hf A hA hB hO =>
  .inl ⟨.inl ⟨rfl, hg⟩, Oper.wp_mono (fun a' w' ⟨v, e, hq, hp⟩ => ⟨v, e, by rw [hk]; exact hq, hp⟩) (h S f w h1 h2 hc hf A hA hB hO)⟩
/-- a quiet operation whose guard holds -/
theorem StepY.gq (hk : isIn loud k = false) (hg : o.guard = some (g, b)) (h2 : ((l[g]?).bind (·.dst)) = some d) (h3 : d < a.tmps.size)
    (h : ∀ (S : Nat → Bool) (f : Nat → Value) (w : World), S k = false → (∀ j, dep l.toArray l.length k j = true → S j = true) → C S f w → (∀ j, gotN l loud fixed nk k j = true → φ j (f j) w) → ∀ A : Act, (∀ d i, ((l[i]?).bind (·.dst)) = some d → d < a.tmps.size → A.eval (.tmp d) = f i) → (∀ d, apartD (some d) l = true → A.eval (.tmp d) = a.eval (.tmp d)) → (∀ j, dep l.toArray l.length j k = true → S j = false ∧ f j = old a l j) → f g = .bool b ∧ o.wp P A w (fun a' w' => ∃ v, a' = A.put o.dst v ∧ Q w w' ∧ φ k v w') R) : StepY C loud fixed nk P R l a φ k o := fun S f w x1 x2 hc hf A hA hB hO => by
  obtain ⟨e, hw⟩ := h S f w x1 x2 hc hf A hA hB hO
  exact .inl ⟨.inr ⟨g, b, d, hg, h2, h3, e⟩, Oper.wp_mono (fun a' w' ⟨v, e, hq, hp⟩ => ⟨v, e, by rw [hk]; exact hq, hp⟩) hw⟩
/-- a loud operation whose guard holds -/
theorem StepY.gc (hk : isIn loud k = true) (hg : o.guard = some (g, b)) (h2 : ((l[g]?).bind (·.dst)) = some d) (h3 : d < a.tmps.size)
    (h : ∀ (S : Nat → Bool) (f : Nat → Value) (w : World), S k = false → (∀ j, dep l.toArray l.length k j = true → S j = true) → C S f w → (∀ j, gotN l loud fixed nk k j = true → φ j (f j) w) → ∀ A : Act, (∀ d i, ((l[i]?).bind (·.dst)) = some d → d < a.tmps.size → A.eval (.tmp d) = f i) → (∀ d, apartD (some d) l = true → A.eval (.tmp d) = a.eval (.tmp d)) → (∀ j, dep l.toArray l.length j k = true → S j = false ∧ f j = old a l j) → f g = .bool b ∧ o.wp P A w (fun a' w' => ∃ v, a' = A.put o.dst v ∧ C (upd S k true) (upd f k v) w' ∧ φ k v w') R) : StepY C loud fixed nk P R l a φ k o := fun S f w x1 x2 hc hf A hA hB hO => by
  obtain ⟨e, hw⟩ := h S f w x1 x2 hc hf A hA hB hO
  exact .inl ⟨.inr ⟨g, b, d, hg, h2, h3, e⟩, Oper.wp_mono (fun a' w' ⟨v, e, hq, hp⟩ => ⟨v, e, by rw [hk]; exact hq, hp⟩) hw⟩
/-- a quiet operation whose guard fails -/
theorem StepY.off (hk : isIn loud k = false) (hg : o.guard = some (g, b)) (h2 : ((l[g]?).bind (·.dst)) = some d) (h3 : d < a.tmps.size)
    (h : ∀ (S : Nat → Bool) (f : Nat → Value) (w : World), C S f w → (∀ j, gotN l loud fixed nk k j = true → φ j (f j) w) → f g = .bool (!b) ∧ φ k undef w) : StepY C loud fixed nk P R l a φ k o := fun S f w x1 x2 hc hf A hA hB hO => by
  obtain ⟨e, hp⟩ := h S f w hc hf
  exact .inr ⟨.inr ⟨g, b, d, hg, h2, h3, e⟩, hk, hp⟩
end
theorem upd_at {α : Type} (f : Nat → α) (k : Nat) (v : α) : upd f k v k = v := by unfold upd; rw [if_pos rfl]
theorem upd_ne {α : Type} (f : Nat → α) {k j : Nat} (v : α) (h : j ≠ k) : upd f k v j = f j := by unfold upd; rw [if_neg h]
theorem madeY {C : (Nat → Bool) → (Nat → Value) → World → Prop} (loud fixed nk : List Nat) {P : Program} {id : Nat} {R : Exit → Act → World → Prop} {a : Act} {w : World} {l : List Oper} (hCq : ∀ S S2 f f2 w1 w2, (∀ k, isIn loud k = true → S2 k = S k ∧ f2 k = f k) → C S f w1 → Q w1 w2 → C S2 f2 w2) (φ : Nat → Value → World → Prop) (hm : P.follows .mixedOrders = true) (hB : chk l = true) (hU : useN l loud fixed nk = true)
    (hC : C (fun _ => false) (old a l) w.drew) (hmono : ∀ i v w1 w2, φ i v w1 → Q w1 w2 → φ i v w2) (hfix : ∀ i, isIn fixed i = true → ∀ v w1 w2, φ i v w1 → φ i v w2) (hstep : All (StepY C loud fixed nk P R l a φ) 0 l)
    (hend : ∀ S f w', (∀ k, k < l.length → S k = true) → C S f w' → (∀ j, j < l.length → isIn fixed j = true → φ j (f j) w') → R .normal (acts f 0 l a) w') : (Code.region id l.toArray true).wp P R a w := by
  unfold chk at hB
  rw [Bool.and_eq_true] at hB
  have hev : ∀ (f : Nat → Value) d i, ((l[i]?).bind (·.dst)) = some d → d < a.tmps.size → (acts f 0 l a).eval (.tmp d) = f i := fun f d i hdi hs => acts_get l 0 a hB.1 (Nat.zero_le _) (by simpa using hdi) hs
  have hsame : ∀ (f : Nat → Value) d, apartD (some d) l = true → (acts f 0 l a).eval (.tmp d) = a.eval (.tmp d) := fun f d hd' => acts_same l 0 a hd'
  refine wp_region_any hm ?_
  have hst : a = acts (old a l) 0 l a := start
  have key := any (P := P) (ops := l.toArray) (R := R) (A := fun f => acts f 0 l a) (fun S f w' => C S f w' ∧ (∀ j, j < l.length → S j = true → (isIn fixed j = true ∨ ∃ i, i < l.length ∧ gotN l loud fixed nk i j = true ∧ S i = false) → φ j (f j) w') ∧ ∀ j, S j = false → f j = old a l j)
    (fun f i o v ho => acts_upd v l 0 a hB.1 (Nat.zero_le _) (by simpa using ho)) hB.2
    (fun S f w1 i o ho hSi hdep hwait hJ => by
      have ho' : l[i]? = some o := by simpa using ho
      have hil : i < l.length := (List.getElem?_eq_some_iff.1 ho').1
      have hs := all_get hstep ho'
      rw [Nat.zero_add] at hs
      have hjl : ∀ j, dep l.toArray l.length i j = true → j < l.length := fun j hj => by
        refine Classical.byContradiction fun hge => ?_
        exact absurd hj (by rw [dep_far hB.2 l.length i j (by simpa using hge)]; exact Bool.false_ne_true)
      have hdl : ∀ j, gotN l loud fixed nk i j = true → φ j (f j) w1 := fun j hj => hJ.2.1 j (hjl j (gotN_dep hj)) (hdep j (by simpa using gotN_dep hj)) (.inr ⟨i, hil, hj, hSi⟩)
      have := hs S f w1 hSi (fun j hj => hdep j (by simpa using hj)) hJ.1 hdl _ (hev f) (hsame f) (fun j hj => ⟨hwait j (by simpa using hj), hJ.2.2 j (hwait j (by simpa using hj))⟩)
      have grow : ∀ v w2, (if isIn loud i then C (upd S i true) (upd f i v) w2 else Q w1 w2) → φ i v w2 → (C (upd S i true) (upd f i v) w2 ∧ (∀ j, j < l.length → upd S i true j = true → (isIn fixed j = true ∨ ∃ i', i' < l.length ∧ gotN l loud fixed nk i' j = true ∧ upd S i true i' = false) → φ j (upd f i v j) w2) ∧ ∀ j, upd S i true j = false → upd f i v j = old a l j) := fun v w2 hq hφ => by
        refine ⟨?_, fun j hj hSj hal => ?_, fun j hSj => ?_⟩
        · cases hl : isIn loud i with
          | true => rw [hl] at hq; exact hq
          | false =>
            rw [hl] at hq
            refine hCq _ _ _ _ _ _ (fun k hk => ?_) hJ.1 hq
            have hne : k ≠ i := fun e => by rw [e, hl] at hk; cases hk
            unfold upd
            rw [if_neg hne, if_neg hne]
            exact ⟨rfl, rfl⟩
        · by_cases e : j = i
          · unfold upd
            rw [if_pos e, e]
            exact hφ
          · have e1 : upd f i v j = f j := by unfold upd; rw [if_neg e]
            have e2 : S j = true := by unfold upd at hSj; rw [if_neg e] at hSj; exact hSj
            have hal0 : isIn fixed j = true ∨ ∃ i', i' < l.length ∧ gotN l loud fixed nk i' j = true ∧ S i' = false := by
              rcases hal with h | ⟨i', h1, h2, h3⟩
              · exact .inl h
              · refine .inr ⟨i', h1, h2, ?_⟩
                unfold upd at h3
                by_cases e3 : i' = i
                · rw [if_pos e3] at h3; cases h3
                · rw [if_neg e3] at h3; exact h3
            have hp := hJ.2.1 j hj e2 hal0
            rw [e1]
            cases hl : isIn loud i with
            | false => rw [hl] at hq; exact hmono _ _ _ _ hp hq
            | true =>
              cases hfx : isIn fixed j with
              | true => exact hfix j hfx _ _ _ hp
              | false =>
                exfalso
                cases hdj : dep l.toArray l.length j i with
                | true =>
                  have := hwait j (by simpa using hdj)
                  rw [e2] at this
                  cases this
                | false =>
                  have hu := useN_of hU hl hj e hfx hdj
                  rcases hal with h | ⟨i', h1, h2, h3⟩
                  · rw [hfx] at h; cases h
                  · rcases hu i' h1 h2 with h4 | h4
                    · subst h4
                      unfold upd at h3
                      rw [if_pos rfl] at h3
                      cases h3
                    · have h5 := hdep i' (by simpa using h4)
                      unfold upd at h3
                      by_cases e3 : i' = i
                      · rw [if_pos e3] at h3; cases h3
                      · rw [if_neg e3, h5] at h3; cases h3
        · unfold upd at hSj ⊢
          by_cases e : j = i
          · rw [if_pos e] at hSj; cases hSj
          · rw [if_neg e] at hSj ⊢
            exact hJ.2.2 j hSj
      rcases this with ⟨hw, hwp⟩ | ⟨hw, hlf, hφ⟩
      · rw [if_pos (wanted_of hB.1 hw)]
        exact Oper.wp_mono (fun a' w2 ⟨v, e, hq, hφ⟩ => ⟨v, e, grow v w2 hq hφ⟩) hwp
      · rw [if_neg (by rw [wanted_of hB.1 hw]; exact Bool.false_ne_true)]
        refine grow undef w1 ?_ hφ
        rw [hlf]
        exact Q.refl _)
    (fun S f w1 hall hJ => hend S f w1 (fun j hj => hall j (by simpa using hj)) hJ.1 (fun j hj hfx => hJ.2.1 j hj (hall j (by simpa using hj)) (.inl hfx)))
    l.toArray.size (Array.replicate l.toArray.size false) (old a l) { w with drawn := w.drawn + 1 } (by simp) (by simp) (fun i o ho h => absurd h (by rw [getD_rep]; exact Bool.false_ne_true)) ⟨hCq _ _ _ _ _ _ (fun k _ => ⟨getD_rep .., rfl⟩) hC (Q.refl _), fun j hj h => absurd h (by show ¬ _ = _; dsimp only; rw [getD_rep]; exact Bool.false_ne_true), fun j _ => rfl⟩
  rw [← hst] at key
  exact key
/-- a call that turns one stage into the next -/
theorem wp_callY {P : Program} {R : Exit → Act → World → Prop} {o : Oper} {A : Act} {w : World} {C : Value → World → Prop} {φ : Value → World → Prop} {f : FuncId} {fn : Func} {args : Array Operand} {ts : Array TypeId} (vals : Array Value) (ho : o.op = .call { callee := .value (.func f), args := args, argTypes := ts }) (ha : args.map A.eval = vals)
    (hfn : P.funcs[f]? = some fn) (hn : (fn.name == "runtime.NumGoroutine") = false) (hb : fn.body.isNone = false) (hc : Calls P f vals w fun e w' => ∃ v, e = .returned v ∧ C v w' ∧ φ v w') : o.wp P A w (fun a' w' => ∃ v, a' = A.put o.dst v ∧ C v w' ∧ φ v w') R :=
  wp_callP vals ho ha hfn hn hb (hc.mono fun e w' ⟨v, he, ht, hp⟩ => ⟨v, he, v, rfl, ht, hp⟩)
end Ri
end Go.Proofs.YtdaklffbfadghaaGreat

namespace Go.Proofs.YtdaklffbfadghaaGreat
open Go.RowKit HP
set_option linter.unusedVariables false
set_option linter.unusedSimpArgs false
theorem run_eqlB {P : Program} {o : Oper} {A : Act} {w : World} {x y : Operand} {t t' : TypeId} {p u : Bool} (ho : o.op = .binOp .eql t x y t') (hx : A.eval x = .bool p) (hy : A.eval y = .bool u) (hu : P.underlying t = some .bool) : (execOp A.eval o).run P w = .ok (.value (.bool (p == u))) w := by
  unfold execOp
  simp only [ho, hx, hy]
  simp [go_sem, hu]
/-- a box of some type -/
def iB (nb : Nat) (t : TypeId) (cs : Array Value) : Itm := ⟨fun b => b = nb, fun W => W.heap[nb]? = some (.cells cs t (0, 0)), fun W1 W2 h k => (k _ rfl).trans h⟩
section
variable {w W W' : World} {hb lb pb qb kb nn k nb b1 b2 b3 c1 c2 c3 c4 c5 : Nat} {m : HM} {r1 r2 r3 : Rw} {kv zs : List (Int × Int)} {xs : List Int} {its : List Itm} {it : Itm} {B : List (Int × Int)} {Hs : List (Int × Int × Int)} {A1 A2 A3 A4 A5 : Option Addr} {cs : Array Value} {t : TypeId}
theorem TS.has (X : TS w W hb lb pb qb kb m r1 r2 r3 nn kv its) (h : it ∈ its) : it.ok W := X.st.ok _ (List.mem_cons_of_mem _ h)
theorem TS.box (X : TS w W hb lb pb qb kb m r1 r2 r3 nn kv its) (hq : Q W W') (h : W'.heap[nb]? = some (.cells cs t (0, 0))) (hn : W.heap.size ≤ nb) : TS w W' hb lb pb qb kb m r1 r2 r3 nn kv (iB nb t cs :: its) :=
  X.add hq h fun b e => by
    have e : b = nb := e
    subst e
    exact ⟨hn, blk_lt h⟩
theorem peekR_all {A4 A5 : Option Addr} (R : RQ W nb A4 zs.length c4 A5 c5 zs) (hn : zs.length ≤ 64) : Calls Tryz.prog 54 #[.pointer (some ⟨nb, 0, none⟩)] W fun e W' => e = .returned (.tuple #[.int .i64 (lsP zs).1, .int .i64 (lsP zs).2, .bool (decide (0 < zs.length))]) ∧ Q W W' := by
  by_cases hl : 0 < zs.length
  · have lk : (keysOf zs).length = zs.length := by unfold keysOf; rw [List.length_map]
    obtain ⟨i, e, hi, -, -⟩ := lsU_least (keysOf zs) (keysOf zs).length (by omega) (Nat.le_refl _)
    have e : lsI (keysOf zs) = (i : Int) := e
    have hv : lsP zs = ((keysOf zs).getD i 0, (valsOf zs).getD i 0) := by unfold lsP; rw [if_pos hl, e, Int.toNat_natCast]
    rw [hv, show decide (0 < zs.length) = true by simpa using hl]
    exact peekR_some R (by omega) i e (by omega)
  · have hv : lsP zs = (0, 0) := by unfold lsP; rw [if_neg hl]
    rw [hv, show decide (0 < zs.length) = false by simpa using hl]
    exact peekR_none R (by omega)
set_option maxHeartbeats 8000000 in
set_option maxRecDepth 100000 in
theorem isKept_any (X : TS w W hb lb pb qb kb m r1 r2 r3 nn kv its) (P : P3 m r1 r2 r3 xs kv zs B Hs k) (h1 : iL w.heap.size b1 (.slice A1 xs.length c1) xs ∈ its) (h2 : iM w.heap.size b2 (.slice A2 kv.length c2) (.slice A3 kv.length c3) kv ∈ its) (h3 : iQ w.heap.size b3 (.slice A4 zs.length c4) (.slice A5 zs.length c5) zs ∈ its) :
    Calls Tryz.prog 30 #[.pointer (some ⟨lb, 0, none⟩), .pointer (some ⟨pb, 0, none⟩), .pointer (some ⟨qb, 0, none⟩), .agg #[.slice A1 xs.length c1], .agg #[.slice A2 kv.length c2, .slice A3 kv.length c3], .agg #[.slice A4 zs.length c4, .slice A5 zs.length c5]] W fun e W' => e = .returned (.bool true) ∧ TS w W' hb lb pb qb kb m r1 r2 r3 nn kv its := by
  obtain ⟨Ls, t, I⟩ := P.qu
  have h64 := I.l64
  have l64 : xs.length ≤ 64 := P.l.fit64
  have m64 : kv.length ≤ 64 := P.mp.l64
  have lk : (keysOf kv).length = kv.length := by unfold keysOf; rw [List.length_map]
  have zk : (keysOf zs).length = zs.length := by unfold keysOf; rw [List.length_map]
  have zv : (valsOf zs).length = zs.length := by unfold valsOf; rw [List.length_map]
  obtain ⟨b9, e9⟩ : ∃ b9, b9 = W.heap.size := ⟨_, rfl⟩
  obtain ⟨b10, e10⟩ : ∃ b10, b10 = W.heap.size + 1 := ⟨_, rfl⟩
  obtain ⟨b11, e11⟩ : ∃ b11, b11 = W.heap.size + 2 := ⟨_, rfl⟩
  obtain ⟨C, hC⟩ : ∃ C : World → Prop, C = fun W' => TS w W' hb lb pb qb kb m r1 r2 r3 nn kv (iB b11 51 #[.slice A4 zs.length c4, .slice A5 zs.length c5] :: iB b10 49 #[.slice A2 kv.length c2, .slice A3 kv.length c3] :: iB b9 47 #[.slice A1 xs.length c1] :: its) := ⟨_, rfl⟩
  have HCE : Hid (∀ W, C W → TS w W hb lb pb qb kb m r1 r2 r3 nn kv its) := fun W h => by
    rw [hC] at h
    exact h.drop.drop.drop
  have HC0 : Hid (C (((W.alloc (.cells #[.slice A1 xs.length c1] 47)).alloc (.cells #[.slice A2 kv.length c2, .slice A3 kv.length c3] 49)).alloc (.cells #[.slice A4 zs.length c4, .slice A5 zs.length c5] 51))) := by
    rw [hC, e9, e10, e11]
    have a1 := X.box ((Q.refl W).alloc _) (heap_alloc_new W (.cells #[.slice A1 xs.length c1] 47)) (Nat.le_refl _)
    have a2 := a1.box ((Q.refl _).alloc _) (heap_alloc_new (W.alloc (.cells #[.slice A1 xs.length c1] 47)) (.cells #[.slice A2 kv.length c2, .slice A3 kv.length c3] 49)) (Nat.le_refl _)
    have a3 := a2.box ((Q.refl _).alloc _) (heap_alloc_new ((W.alloc (.cells #[.slice A1 xs.length c1] 47)).alloc (.cells #[.slice A2 kv.length c2, .slice A3 kv.length c3] 49)) (.cells #[.slice A4 zs.length c4, .slice A5 zs.length c5] 51)) (Nat.le_refl _)
    simp at a3
    exact a3
  have HCQ : Hid (∀ W W', C W → Q W W' → C W') := fun W W' h hq => by
    rw [hC] at h ⊢
    exact h.q hq
  have HAL : Hid (∀ W, C W → Calls Tryz.prog 52 #[.pointer (some ⟨lb, 0, none⟩)] W fun e W' => ∃ u, e = .returned u ∧ C W' ∧ ∃ A c, u = .slice A xs.length c ∧ Sl 1 (encI .i64) W' A xs.length c xs) := fun W h => by
    rw [hC] at h ⊢
    refine (ts_all h P.l).mono ?_
    rintro e W' ⟨v, he, hX, ho⟩
    obtain ⟨A, c, eu, -⟩ := own_form ho
    subst eu
    exact ⟨_, he, hX, A, c, rfl, own_sl rfl ho⟩
  have HKY : Hid (∀ W, C W → Calls Tryz.prog 34 #[.pointer (some ⟨pb, 0, none⟩)] W fun e W' => ∃ u, e = .returned u ∧ C W' ∧ ∃ A c, u = .slice A kv.length c ∧ Sl 1 (encI .i64) W' A kv.length c (keysOf kv)) := fun W h => by
    rw [hC] at h ⊢
    refine (ts_keys h P.mp).mono ?_
    rintro e W' ⟨v, he, hX, ho⟩
    obtain ⟨A, c, eu, -⟩ := own_form ho
    subst eu
    exact ⟨_, he, hX, A, c, rfl, own_sl lk.symm ho⟩
  have HLN : Hid (∀ W, C W → Calls Tryz.prog 56 #[.pointer (some ⟨qb, 0, none⟩)] W fun e W' => e = .returned (.int .i64 (zs.length : Int)) ∧ C W') := fun W h => by
    rw [hC] at h ⊢
    exact ts_len h I
  have HCM : Hid (∀ W, C W → W.cell? ⟨b9, 0, none⟩ = some (.slice A1 xs.length c1) ∧ W.cell? ⟨b10, 0, none⟩ = some (.slice A2 kv.length c2) ∧ W.cell? ⟨b11, 0, none⟩ = some (.slice A4 zs.length c4)) := fun W h => by
    rw [hC] at h
    have k1 : W.heap[b9]? = _ := h.has (.tail _ (.tail _ (.head _)))
    have k2 : W.heap[b10]? = _ := h.has (.tail _ (.head _))
    have k3 : W.heap[b11]? = _ := h.has (.head _)
    refine ⟨?_, ?_, ?_⟩
    · rw [cell_of_row _ _ _ _ _ _ k1]; rfl
    · rw [cell_of_row _ _ _ _ _ _ k2]; rfl
    · rw [cell_of_row _ _ _ _ _ _ k3]; rfl
  have HSA : Hid (∀ W A c, C W → Sl 1 (encI .i64) W A xs.length c xs → Calls Tryz.prog 33 #[.slice A xs.length c, .slice A1 xs.length c1] W fun e w' => e = .returned (.bool true) ∧ Q W w') := fun W A c h hs => by
    rw [hC] at h
    have k1 := (h.has (.tail _ (.tail _ (.tail _ h1))) : _ ∧ _).2
    exact SameInts_same A xs.length c A1 c1 xs W hs (own_sl rfl k1) (by omega)
  have HSB : Hid (∀ W A c, C W → Sl 1 (encI .i64) W A kv.length c (keysOf kv) → Calls Tryz.prog 33 #[.slice A kv.length c, .slice A2 kv.length c2] W fun e w' => e = .returned (.bool true) ∧ Q W w') := fun W A c h hs => by
    rw [hC] at h
    have M : OM W w.heap.size b2 _ _ (keysOf kv) (valsOf kv) := h.has (.tail _ (.tail _ (.tail _ h2)))
    have k1 := M.ok
    rw [lk] at k1
    exact SameInts_same A kv.length c A2 c2 (keysOf kv) W hs (own_sl lk.symm k1) (by omega)
  obtain ⟨px, epx⟩ : ∃ px, px = (lsP zs).1 := ⟨_, rfl⟩
  obtain ⟨py, epy⟩ : ∃ py, py = (lsP zs).2 := ⟨_, rfl⟩
  obtain ⟨pb2, epb⟩ : ∃ pb2, pb2 = decide (0 < zs.length) := ⟨_, rfl⟩
  have HPK : Hid (∀ W, C W → Calls Tryz.prog 53 #[.pointer (some ⟨qb, 0, none⟩)] W fun e W' => e = .returned (.tuple #[.int .i64 px, .int .i64 py, .bool pb2, .int .i64 0]) ∧ C W') := fun W h => by
    rw [hC] at h ⊢
    rw [epx, epy, epb]
    exact ts_peek h I
  have HRP : Hid (∀ W, C W → Calls Tryz.prog 54 #[.pointer (some ⟨b11, 0, none⟩)] W fun e W' => e = .returned (.tuple #[.int .i64 px, .int .i64 py, .bool pb2]) ∧ C W') := fun W h => by
    rw [hC] at h ⊢
    rw [epx, epy, epb]
    have M : OQ W w.heap.size b3 _ _ (keysOf zs) (valsOf zs) := h.has (.tail _ (.tail _ (.tail _ h3)))
    have o1 := M.ok
    rw [zk] at o1
    have o2 := M.ov
    rw [zv] at o2
    refine (peekR_all ⟨h.has (.head _), own_sl zk.symm o1, own_sl zv.symm o2⟩ h64).mono ?_
    rintro e W' ⟨he, hq⟩
    exact ⟨he, h.q hq⟩
  obtain ⟨la, ela⟩ : ∃ la, la = xs.length := ⟨_, rfl⟩
  obtain ⟨lm, elm⟩ : ∃ lm, lm = kv.length := ⟨_, rfl⟩
  obtain ⟨lq, elq⟩ : ∃ lq, lq = zs.length := ⟨_, rfl⟩
  rw [← ela] at HC0 HAL HCM HSA ⊢
  rw [← elm] at HC0 HKY HCM HSB ⊢
  rw [← elq] at HC0 HLN HCM ⊢
  have H9 := hide e9
  have H10 := hide e10
  have H11 := hide e11
  clear h64 l64 m64 lk zk zv epx epy epb ela elm elq h1 h2 h3 X P I hC e9 e10 e11
  go_enter Tryz.func30, Tryz.ntmps30
  go_upto_region 3 with (first
    | (go_at_call 53; go_loud (refine (HPK.out _ HC0.out).mono ?_); rintro e w1 ⟨rfl, hX⟩; have HX1 := hide hX; clear hX)
    | (go_at_call 54; go_loud (rw [show W.heap.size + 1 + 1 = b11 from H11.out.symm]; refine (HRP.out _ HX1.out).mono ?_); rintro e w2 ⟨rfl, hX⟩; have HX2 := hide hX; clear hX))
  try rw [show W.heap.size + 1 + 1 = b11 from H11.out.symm]
  rw [← H10.out, ← H9.out]
  refine Ri.madeY (C := fun _ _ W => C W) [1, 7, 33] [0, 2, 3, 4, 5, 6, 8, 9, 10, 11, 12, 13, 14, 15, 16, 17, 18, 19, 20, 21, 22, 23, 24, 25, 26, 27, 28, 29, 30, 31, 32, 33, 34, 35, 36, 37, 38, 39] [0, 1, 2, 3, 5, 6, 7, 8, 9, 11, 12, 13, 14, 15, 16, 17, 18, 19, 20, 21, 22, 23, 24, 25, 26, 27, 28, 29, 30, 31, 32, 33, 34, 35, 36, 37, 38, 39] (fun _ _ _ _ w1 w2 _ X hq => HCQ.out w1 w2 X hq) (Ri.phi [Ri.isV (.pointer (some ⟨lb, 0, none⟩)), (fun u W => ∃ A c, u = .slice A la c ∧ Sl 1 (encI .i64) W A la c (xs)), Ri.isV (.pointer (some ⟨b9, 0, none⟩)), Ri.isV (.slice A1 la c1), Ri.isV (.bool true), Ri.isV (.bool true), Ri.isV (.pointer (some ⟨pb, 0, none⟩)), (fun u W => ∃ A c, u = .slice A lm c ∧ Sl 1 (encI .i64) W A lm c (keysOf kv)), Ri.isV (.pointer (some ⟨b10, 0, none⟩)), Ri.isV (.slice A2 lm c2), Ri.isV (.bool true), Ri.isV (.bool true), Ri.isV (.bool true), Ri.isV (.int .i64 0), Ri.isV (.bool true), Ri.isV (.bool true), Ri.isV (.bool true), Ri.isV (.int .i64 px), Ri.isV (.int .i64 px), Ri.isV (.bool true), Ri.isV (.bool true), Ri.isV (.bool true), Ri.isV (.int .i64 py), Ri.isV (.int .i64 py), Ri.isV (.bool true), Ri.isV (.bool true), Ri.isV (.bool true), Ri.isV (.bool pb2), Ri.isV (.bool pb2), Ri.isV (.bool true), Ri.isV (.bool true), Ri.isV (.bool true), Ri.isV (.pointer (some ⟨qb, 0, none⟩)), Ri.isV (.int .i64 (lq : Int)), Ri.isV (.pointer (some ⟨b11, 0, none⟩)), Ri.isV (.slice A4 lq c4), Ri.isV (.int .i64 (lq : Int)), Ri.isV (.bool true), Ri.isV (.bool true), Ri.isV (.bool true)]) (by kernel_rfl) (by kernel_rfl) (by kernel_rfl) (HCQ.out _ _ HX2.out (Q.refl _).drew) (Ri.phi_mono ?_) (Ri.phi_fix ?_) ?_ ?_
  · exact ⟨Ri.mono_isV _, (fun v w1 w2 ⟨A, c, e, h⟩ hq => ⟨A, c, e, h.up hq⟩), Ri.mono_isV _, Ri.mono_isV _, Ri.mono_isV _, Ri.mono_isV _, Ri.mono_isV _, (fun v w1 w2 ⟨A, c, e, h⟩ hq => ⟨A, c, e, h.up hq⟩), Ri.mono_isV _, Ri.mono_isV _, Ri.mono_isV _, Ri.mono_isV _, Ri.mono_isV _, Ri.mono_isV _, Ri.mono_isV _, Ri.mono_isV _, Ri.mono_isV _, Ri.mono_isV _, Ri.mono_isV _, Ri.mono_isV _, Ri.mono_isV _, Ri.mono_isV _, Ri.mono_isV _, Ri.mono_isV _, Ri.mono_isV _, Ri.mono_isV _, Ri.mono_isV _, Ri.mono_isV _, Ri.mono_isV _, Ri.mono_isV _, Ri.mono_isV _, Ri.mono_isV _, Ri.mono_isV _, Ri.mono_isV _, Ri.mono_isV _, Ri.mono_isV _, Ri.mono_isV _, Ri.mono_isV _, Ri.mono_isV _, Ri.mono_isV _, trivial⟩
  · exact ⟨fun _ => Ri.fix_isV _, fun h => absurd h (by decide), fun _ => Ri.fix_isV _, fun _ => Ri.fix_isV _, fun _ => Ri.fix_isV _, fun _ => Ri.fix_isV _, fun _ => Ri.fix_isV _, fun h => absurd h (by decide), fun _ => Ri.fix_isV _, fun _ => Ri.fix_isV _, fun _ => Ri.fix_isV _, fun _ => Ri.fix_isV _, fun _ => Ri.fix_isV _, fun _ => Ri.fix_isV _, fun _ => Ri.fix_isV _, fun _ => Ri.fix_isV _, fun _ => Ri.fix_isV _, fun _ => Ri.fix_isV _, fun _ => Ri.fix_isV _, fun _ => Ri.fix_isV _, fun _ => Ri.fix_isV _, fun _ => Ri.fix_isV _, fun _ => Ri.fix_isV _, fun _ => Ri.fix_isV _, fun _ => Ri.fix_isV _, fun _ => Ri.fix_isV _, fun _ => Ri.fix_isV _, fun _ => Ri.fix_isV _, fun _ => Ri.fix_isV _, fun _ => Ri.fix_isV _, fun _ => Ri.fix_isV _, fun _ => Ri.fix_isV _, fun _ => Ri.fix_isV _, fun _ => Ri.fix_isV _, fun _ => Ri.fix_isV _, fun _ => Ri.fix_isV _, fun _ => Ri.fix_isV _, fun _ => Ri.fix_isV _, fun _ => Ri.fix_isV _, fun _ => Ri.fix_isV _, trivial⟩
  · refine Ri.All.cons ?_ (Ri.All.cons ?_ (Ri.All.cons ?_ (Ri.All.cons ?_ (Ri.All.cons ?_ (Ri.All.cons ?_ (Ri.All.cons ?_ (Ri.All.cons ?_ (Ri.All.cons ?_ (Ri.All.cons ?_ (Ri.All.cons ?_ (Ri.All.cons ?_ (Ri.All.cons ?_ (Ri.All.cons ?_ (Ri.All.cons ?_ (Ri.All.cons ?_ (Ri.All.cons ?_ (Ri.All.cons ?_ (Ri.All.cons ?_ (Ri.All.cons ?_ (Ri.All.cons ?_ (Ri.All.cons ?_ (Ri.All.cons ?_ (Ri.All.cons ?_ (Ri.All.cons ?_ (Ri.All.cons ?_ (Ri.All.cons ?_ (Ri.All.cons ?_ (Ri.All.cons ?_ (Ri.All.cons ?_ (Ri.All.cons ?_ (Ri.All.cons ?_ (Ri.All.cons ?_ (Ri.All.cons ?_ (Ri.All.cons ?_ (Ri.All.cons ?_ (Ri.All.cons ?_ (Ri.All.cons ?_ (Ri.All.cons ?_ (Ri.All.cons ?_ (Ri.All.nil))))))))))))))))))))))))))))))))))))))))
    · refine Ri.StepY.q (by kernel_rfl) rfl fun S f W hS hD hq hf A hA hB hO => ?_
      have e1 := (hB 0 (by kernel_rfl)).trans (show _ = .pointer (some ⟨lb, 0, none⟩) by simp [Act.eval])
      exact Ri.wp_value _ (Ri.run_mv rfl e1) rfl
    · refine Ri.StepY.c (by kernel_rfl) rfl fun S f W hS hD hq hf A hA hB hO => ?_
      have e1 := (hA 32 0 (by kernel_rfl) (by simp)).trans (show f 0 = _ from hf 0 (by kernel_rfl))
      exact Ri.wp_callZ #[.pointer (some ⟨lb, 0, none⟩)] rfl (by simp [e1]) Tryz.func52 (by kernel_rfl) (by kernel_rfl) (HAL.out W hq)
    · refine Ri.StepY.q (by kernel_rfl) rfl fun S f W hS hD hq hf A hA hB hO => ?_
      have e1 := (hB 9 (by kernel_rfl)).trans (show _ = .pointer (some ⟨b9, 0, none⟩) by simp [Act.eval])
      exact Ri.wp_value _ (Ri.run_fld (f := _) rfl e1 Tryz.underlying47 rfl (sz := 0) (by kernel_rfl)) rfl
    · refine Ri.StepY.q (by kernel_rfl) rfl fun S f W hS hD hq hf A hA hB hO => ?_
      have e1 := (hA 34 2 (by kernel_rfl) (by simp)).trans (show f 2 = _ from hf 2 (by kernel_rfl))
      exact Ri.wp_value _ (Ri.run_ld1 rfl e1 Tryz.underlying45 rfl ((HCM.out W hq).1)) rfl
    · refine Ri.StepY.q (by kernel_rfl) rfl fun S f W hS hD hq hf A hA hB hO => ?_
      obtain ⟨A9, c9, e0, hS⟩ : ∃ A c, f 1 = .slice A la c ∧ Sl 1 (encI .i64) W A la c (xs) := hf 1 (by kernel_rfl)
      have e1 := (hA 33 1 (by kernel_rfl) (by simp)).trans e0
      have e2 := (hA 35 3 (by kernel_rfl) (by simp)).trans (show f 3 = _ from hf 3 (by kernel_rfl))
      refine Ri.wp_call #[.slice A9 la c9, .slice A1 la c1] rfl (by simp [e1, e2]) Tryz.func33 (by kernel_rfl) (by kernel_rfl) ((HSA.out W A9 c9 hq hS).mono ?_)
      rintro e w3 ⟨rfl, hq3⟩
      exact ⟨_, rfl, hq3, rfl⟩
    · refine Ri.StepY.q (by kernel_rfl) rfl fun S f W hS hD hq hf A hA hB hO => ?_
      have e1 := (hA 36 4 (by kernel_rfl) (by simp)).trans (show f 4 = _ from hf 4 (by kernel_rfl))
      exact Ri.wp_value _ (Ri.run_mv rfl e1) rfl
    · refine Ri.StepY.gq (by kernel_rfl) rfl rfl (by simp) fun S f W hS hD hq hf A hA hB hO => ⟨hf 5 (by kernel_rfl), ?_⟩
      have e1 := (hB 1 (by kernel_rfl)).trans (show _ = .pointer (some ⟨pb, 0, none⟩) by simp [Act.eval])
      exact Ri.wp_value _ (Ri.run_mv rfl e1) rfl
    · refine Ri.StepY.gc (by kernel_rfl) rfl rfl (by simp) fun S f W hS hD hq hf A hA hB hO => ⟨hf 5 (by kernel_rfl), ?_⟩
      have e1 := (hA 38 6 (by kernel_rfl) (by simp)).trans (show f 6 = _ from hf 6 (by kernel_rfl))
      exact Ri.wp_callZ #[.pointer (some ⟨pb, 0, none⟩)] rfl (by simp [e1]) Tryz.func34 (by kernel_rfl) (by kernel_rfl) (HKY.out W hq)
    · refine Ri.StepY.gq (by kernel_rfl) rfl rfl (by simp) fun S f W hS hD hq hf A hA hB hO => ⟨hf 5 (by kernel_rfl), ?_⟩
      have e1 := (hB 10 (by kernel_rfl)).trans (show _ = .pointer (some ⟨b10, 0, none⟩) by simp [Act.eval])
      exact Ri.wp_value _ (Ri.run_fld (f := _) rfl e1 Tryz.underlying49 rfl (sz := 0) (by kernel_rfl)) rfl
    · refine Ri.StepY.gq (by kernel_rfl) rfl rfl (by simp) fun S f W hS hD hq hf A hA hB hO => ⟨hf 5 (by kernel_rfl), ?_⟩
      have e1 := (hA 40 8 (by kernel_rfl) (by simp)).trans (show f 8 = _ from hf 8 (by kernel_rfl))
      exact Ri.wp_value _ (Ri.run_ld1 rfl e1 Tryz.underlying45 rfl ((HCM.out W hq).2.1)) rfl
    · refine Ri.StepY.gq (by kernel_rfl) rfl rfl (by simp) fun S f W hS hD hq hf A hA hB hO => ⟨hf 5 (by kernel_rfl), ?_⟩
      obtain ⟨A9, c9, e0, hS⟩ : ∃ A c, f 7 = .slice A lm c ∧ Sl 1 (encI .i64) W A lm c (keysOf kv) := hf 7 (by kernel_rfl)
      have e1 := (hA 39 7 (by kernel_rfl) (by simp)).trans e0
      have e2 := (hA 41 9 (by kernel_rfl) (by simp)).trans (show f 9 = _ from hf 9 (by kernel_rfl))
      refine Ri.wp_call #[.slice A9 lm c9, .slice A2 lm c2] rfl (by simp [e1, e2]) Tryz.func33 (by kernel_rfl) (by kernel_rfl) ((HSB.out W A9 c9 hq hS).mono ?_)
      rintro e w3 ⟨rfl, hq3⟩
      exact ⟨_, rfl, hq3, rfl⟩
    · refine Ri.StepY.q (by kernel_rfl) rfl fun S f W hS hD hq hf A hA hB hO => ?_
      have e1 := (hA 37 5 (by kernel_rfl) (by simp)).trans (show f 5 = _ from hf 5 (by kernel_rfl))
      have e2 := (hA 42 10 (by kernel_rfl) (by simp)).trans (show f 10 = _ from hf 10 (by kernel_rfl))
      exact Ri.wp_value _ (Ri.run_pick rfl e1 (by simpa using e2)) rfl
    · refine Ri.StepY.q (by kernel_rfl) rfl fun S f W hS hD hq hf A hA hB hO => ?_
      have e1 := (hA 43 11 (by kernel_rfl) (by simp)).trans (show f 11 = _ from hf 11 (by kernel_rfl))
      exact Ri.wp_value _ (Ri.run_mv rfl e1) rfl
    · refine Ri.StepY.gq (by kernel_rfl) rfl rfl (by simp) fun S f W hS hD hq hf A hA hB hO => ⟨hf 12 (by kernel_rfl), ?_⟩
      have e1 := (hB 16 (by kernel_rfl)).trans (show _ = .int .i64 0 by simp [Act.eval])
      exact Ri.wp_value _ (Ri.run_mv rfl e1) rfl
    · refine Ri.StepY.gq (by kernel_rfl) rfl rfl (by simp) fun S f W hS hD hq hf A hA hB hO => ⟨hf 12 (by kernel_rfl), ?_⟩
      have e1 := (hA 45 13 (by kernel_rfl) (by simp)).trans (show f 13 = _ from hf 13 (by kernel_rfl))
      exact Ri.wp_value _ ((Ri.run_eql rfl e1 rfl Tryz.underlying26).trans (by simp)) rfl
    · refine Ri.StepY.q (by kernel_rfl) rfl fun S f W hS hD hq hf A hA hB hO => ?_
      have e1 := (hA 44 12 (by kernel_rfl) (by simp)).trans (show f 12 = _ from hf 12 (by kernel_rfl))
      have e2 := (hA 46 14 (by kernel_rfl) (by simp)).trans (show f 14 = _ from hf 14 (by kernel_rfl))
      exact Ri.wp_value _ (Ri.run_pick rfl e1 (by simpa using e2)) rfl
    · refine Ri.StepY.q (by kernel_rfl) rfl fun S f W hS hD hq hf A hA hB hO => ?_
      have e1 := (hA 47 15 (by kernel_rfl) (by simp)).trans (show f 15 = _ from hf 15 (by kernel_rfl))
      exact Ri.wp_value _ (Ri.run_mv rfl e1) rfl
    · refine Ri.StepY.gq (by kernel_rfl) rfl rfl (by simp) fun S f W hS hD hq hf A hA hB hO => ⟨hf 16 (by kernel_rfl), ?_⟩
      have e1 := (hB 13 (by kernel_rfl)).trans (show _ = .int .i64 px by simp [Act.eval])
      exact Ri.wp_value _ (Ri.run_mv rfl e1) rfl
    · refine Ri.StepY.gq (by kernel_rfl) rfl rfl (by simp) fun S f W hS hD hq hf A hA hB hO => ⟨hf 16 (by kernel_rfl), ?_⟩
      have e1 := (hB 17 (by kernel_rfl)).trans (show _ = .int .i64 px by simp [Act.eval])
      exact Ri.wp_value _ (Ri.run_mv rfl e1) rfl
    · refine Ri.StepY.gq (by kernel_rfl) rfl rfl (by simp) fun S f W hS hD hq hf A hA hB hO => ⟨hf 16 (by kernel_rfl), ?_⟩
      have e1 := (hA 49 17 (by kernel_rfl) (by simp)).trans (show f 17 = _ from hf 17 (by kernel_rfl))
      have e2 := (hA 50 18 (by kernel_rfl) (by simp)).trans (show f 18 = _ from hf 18 (by kernel_rfl))
      exact Ri.wp_value _ ((Ri.run_eql rfl e1 e2 Tryz.underlying3).trans (by simp)) rfl
    · refine Ri.StepY.q (by kernel_rfl) rfl fun S f W hS hD hq hf A hA hB hO => ?_
      have e1 := (hA 48 16 (by kernel_rfl) (by simp)).trans (show f 16 = _ from hf 16 (by kernel_rfl))
      have e2 := (hA 51 19 (by kernel_rfl) (by simp)).trans (show f 19 = _ from hf 19 (by kernel_rfl))
      exact Ri.wp_value _ (Ri.run_pick rfl e1 (by simpa using e2)) rfl
    · refine Ri.StepY.q (by kernel_rfl) rfl fun S f W hS hD hq hf A hA hB hO => ?_
      have e1 := (hA 52 20 (by kernel_rfl) (by simp)).trans (show f 20 = _ from hf 20 (by kernel_rfl))
      exact Ri.wp_value _ (Ri.run_mv rfl e1) rfl
    · refine Ri.StepY.gq (by kernel_rfl) rfl rfl (by simp) fun S f W hS hD hq hf A hA hB hO => ⟨hf 21 (by kernel_rfl), ?_⟩
      have e1 := (hB 14 (by kernel_rfl)).trans (show _ = .int .i64 py by simp [Act.eval])
      exact Ri.wp_value _ (Ri.run_mv rfl e1) rfl
    · refine Ri.StepY.gq (by kernel_rfl) rfl rfl (by simp) fun S f W hS hD hq hf A hA hB hO => ⟨hf 21 (by kernel_rfl), ?_⟩
      have e1 := (hB 18 (by kernel_rfl)).trans (show _ = .int .i64 py by simp [Act.eval])
      exact Ri.wp_value _ (Ri.run_mv rfl e1) rfl
    · refine Ri.StepY.gq (by kernel_rfl) rfl rfl (by simp) fun S f W hS hD hq hf A hA hB hO => ⟨hf 21 (by kernel_rfl), ?_⟩
      have e1 := (hA 54 22 (by kernel_rfl) (by simp)).trans (show f 22 = _ from hf 22 (by kernel_rfl))
      have e2 := (hA 55 23 (by kernel_rfl) (by simp)).trans (show f 23 = _ from hf 23 (by kernel_rfl))
      exact Ri.wp_value _ ((Ri.run_eql rfl e1 e2 Tryz.underlying3).trans (by simp)) rfl
    · refine Ri.StepY.q (by kernel_rfl) rfl fun S f W hS hD hq hf A hA hB hO => ?_
      have e1 := (hA 53 21 (by kernel_rfl) (by simp)).trans (show f 21 = _ from hf 21 (by kernel_rfl))
      have e2 := (hA 56 24 (by kernel_rfl) (by simp)).trans (show f 24 = _ from hf 24 (by kernel_rfl))
      exact Ri.wp_value _ (Ri.run_pick rfl e1 (by simpa using e2)) rfl
    · refine Ri.StepY.q (by kernel_rfl) rfl fun S f W hS hD hq hf A hA hB hO => ?_
      have e1 := (hA 57 25 (by kernel_rfl) (by simp)).trans (show f 25 = _ from hf 25 (by kernel_rfl))
      exact Ri.wp_value _ (Ri.run_mv rfl e1) rfl
    · refine Ri.StepY.gq (by kernel_rfl) rfl rfl (by simp) fun S f W hS hD hq hf A hA hB hO => ⟨hf 26 (by kernel_rfl), ?_⟩
      have e1 := (hB 15 (by kernel_rfl)).trans (show _ = .bool pb2 by simp [Act.eval])
      exact Ri.wp_value _ (Ri.run_mv rfl e1) rfl
    · refine Ri.StepY.gq (by kernel_rfl) rfl rfl (by simp) fun S f W hS hD hq hf A hA hB hO => ⟨hf 26 (by kernel_rfl), ?_⟩
      have e1 := (hB 19 (by kernel_rfl)).trans (show _ = .bool pb2 by simp [Act.eval])
      exact Ri.wp_value _ (Ri.run_mv rfl e1) rfl
    · refine Ri.StepY.gq (by kernel_rfl) rfl rfl (by simp) fun S f W hS hD hq hf A hA hB hO => ⟨hf 26 (by kernel_rfl), ?_⟩
      have e1 := (hA 59 27 (by kernel_rfl) (by simp)).trans (show f 27 = _ from hf 27 (by kernel_rfl))
      have e2 := (hA 60 28 (by kernel_rfl) (by simp)).trans (show f 28 = _ from hf 28 (by kernel_rfl))
      exact Ri.wp_value _ ((run_eqlB rfl e1 e2 Tryz.underlying4).trans (by simp)) rfl
    · refine Ri.StepY.q (by kernel_rfl) rfl fun S f W hS hD hq hf A hA hB hO => ?_
      have e1 := (hA 58 26 (by kernel_rfl) (by simp)).trans (show f 26 = _ from hf 26 (by kernel_rfl))
      have e2 := (hA 61 29 (by kernel_rfl) (by simp)).trans (show f 29 = _ from hf 29 (by kernel_rfl))
      exact Ri.wp_value _ (Ri.run_pick rfl e1 (by simpa using e2)) rfl
    · refine Ri.StepY.q (by kernel_rfl) rfl fun S f W hS hD hq hf A hA hB hO => ?_
      have e1 := (hA 62 30 (by kernel_rfl) (by simp)).trans (show f 30 = _ from hf 30 (by kernel_rfl))
      exact Ri.wp_value _ (Ri.run_mv rfl e1) rfl
    · refine Ri.StepY.gq (by kernel_rfl) rfl rfl (by simp) fun S f W hS hD hq hf A hA hB hO => ⟨hf 31 (by kernel_rfl), ?_⟩
      have e1 := (hB 2 (by kernel_rfl)).trans (show _ = .pointer (some ⟨qb, 0, none⟩) by simp [Act.eval])
      exact Ri.wp_value _ (Ri.run_mv rfl e1) rfl
    · refine Ri.StepY.gc (by kernel_rfl) rfl rfl (by simp) fun S f W hS hD hq hf A hA hB hO => ⟨hf 31 (by kernel_rfl), ?_⟩
      have e1 := (hA 64 32 (by kernel_rfl) (by simp)).trans (show f 32 = _ from hf 32 (by kernel_rfl))
      refine Ri.wp_callZ #[.pointer (some ⟨qb, 0, none⟩)] rfl (by simp [e1]) Tryz.func56 (by kernel_rfl) (by kernel_rfl) ((HLN.out W hq).mono ?_)
      rintro e w3 ⟨rfl, hx3⟩
      exact ⟨_, rfl, hx3, rfl⟩
    · refine Ri.StepY.gq (by kernel_rfl) rfl rfl (by simp) fun S f W hS hD hq hf A hA hB hO => ⟨hf 31 (by kernel_rfl), ?_⟩
      have e1 := (hB 11 (by kernel_rfl)).trans (show _ = .pointer (some ⟨b11, 0, none⟩) by simp [Act.eval])
      exact Ri.wp_value _ (Ri.run_fld (f := _) rfl e1 Tryz.underlying51 rfl (sz := 0) (by kernel_rfl)) rfl
    · refine Ri.StepY.gq (by kernel_rfl) rfl rfl (by simp) fun S f W hS hD hq hf A hA hB hO => ⟨hf 31 (by kernel_rfl), ?_⟩
      have e1 := (hA 66 34 (by kernel_rfl) (by simp)).trans (show f 34 = _ from hf 34 (by kernel_rfl))
      exact Ri.wp_value _ (Ri.run_ld1 rfl e1 Tryz.underlying45 rfl ((HCM.out W hq).2.2)) rfl
    · refine Ri.StepY.gq (by kernel_rfl) rfl rfl (by simp) fun S f W hS hD hq hf A hA hB hO => ⟨hf 31 (by kernel_rfl), ?_⟩
      have e1 := (hA 67 35 (by kernel_rfl) (by simp)).trans (show f 35 = _ from hf 35 (by kernel_rfl))
      exact Ri.wp_value _ (Ri.run_len rfl e1 Tryz.underlying45) rfl
    · refine Ri.StepY.gq (by kernel_rfl) rfl rfl (by simp) fun S f W hS hD hq hf A hA hB hO => ⟨hf 31 (by kernel_rfl), ?_⟩
      have e1 := (hA 65 33 (by kernel_rfl) (by simp)).trans (show f 33 = _ from hf 33 (by kernel_rfl))
      have e2 := (hA 68 36 (by kernel_rfl) (by simp)).trans (show f 36 = _ from hf 36 (by kernel_rfl))
      exact Ri.wp_value _ ((Ri.run_eql rfl e1 e2 Tryz.underlying3).trans (by simp)) rfl
    · refine Ri.StepY.q (by kernel_rfl) rfl fun S f W hS hD hq hf A hA hB hO => ?_
      have e1 := (hA 63 31 (by kernel_rfl) (by simp)).trans (show f 31 = _ from hf 31 (by kernel_rfl))
      have e2 := (hA 69 37 (by kernel_rfl) (by simp)).trans (show f 37 = _ from hf 37 (by kernel_rfl))
      exact Ri.wp_value _ (Ri.run_pick rfl e1 (by simpa using e2)) rfl
    · refine Ri.StepY.q (by kernel_rfl) rfl fun S f W hS hD hq hf A hA hB hO => ?_
      have e1 := (hA 70 38 (by kernel_rfl) (by simp)).trans (show f 38 = _ from hf 38 (by kernel_rfl))
      exact Ri.wp_value _ (Ri.run_asg rfl e1) rfl
  · intro S f W5 hS hq hf
    have e39 : f 39 = .bool true := hf 39 (by simp) (by kernel_rfl)
    simp only [Ri.acts, Act.put, List.setIfInBounds_toArray, List.set_cons_zero, List.set_cons_succ, Nat.zero_add, Nat.reduceAdd]
    rw [e39]
    have HXW := hide hq
    clear hf hq
    go_wp2_with fail
    go_ret
    exact ⟨rfl, HCE.out _ HXW.out⟩
end
end Go.Proofs.YtdaklffbfadghaaGreat
