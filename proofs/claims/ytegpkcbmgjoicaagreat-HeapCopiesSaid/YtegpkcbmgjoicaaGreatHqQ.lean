/- Resize in plain Lean; a live block's bytes exchanged. Conditions: as each theorem says. -/
import Derived.Test.YtegpkcbmgjoicaaGreatHqP
namespace Go.Proofs.YtegpkcbmgjoicaaGreat
open Go.RowKit HP
set_option linter.unusedVariables false
def keptL (x : List Int) (n : Nat) : List Int := x.take n ++ undefs (n - x.length)
theorem keptL_len (x : List Int) (n : Nat) : (keptL x n).length = n := by
  unfold keptL
  rw [List.length_append, List.length_take, undefs_len]
  omega
def growM (m : HM) (k : Nat) (x : PB) (n : Nat) : HM := { m with live := m.live.set k (x.1, keptL x.2 n), top := if pend x = markM m then takenM m (x.1, keptL x.2 n) else m.top }
def moveM (m : HM) (x : PB) (to : Int) (n : Nat) : HM := takeM (putM m (to, keptL x.2 n)) (below (putM m (to, keptL x.2 n)).live x.1) x
def resizeM (m : HM) (at_ n : Int) : HM × Int × Int :=
  if sizeB n = false then (m, 0, 1)
  else if has m.live at_ = false then (m, 0, 9)
  else if m.failIn = 1 then (countM m, 0, 3)
  else if staysM (countM m) (atM m at_) n = true then (noteM (growM (countM m) (below m.live at_) (atM m at_) n.toNat), at_, 0)
  else match roomM (countM m) n (alignOfM at_) with
    | none => (countM m, 0, 3)
    | some to => (noteM (moveM (countM m) (atM m at_) to n.toNat), to, 0)
/-! a live block's bytes exchanged -/
def swapH (h : Hp) (k : Nat) (x : Bk) : Hp := { h with bks := h.bks.set k x }
theorem flat_swap (l : List Bk) : ∀ (k : Nat) (x y : Bk), l[k]? = some y → x.pb.1 = y.pb.1 → (l.set k x).flatMap encBk = (l.flatMap encBk).set (k * 2 + 1) x.bv := by
  induction l with
  | nil => intro k x y h; simp at h
  | cons z l ih =>
    intro k x y h e
    cases k with
    | zero =>
      simp at h
      subst h
      simp [encBk, e]
    | succ k =>
      simp at h
      rw [List.set_cons_succ, List.flatMap_cons, List.flatMap_cons, ih k x y h e, List.set_append, if_neg (by show ¬ (k + 1) * 2 + 1 < (encBk z).length; simp [encBk]; omega)]
      congr 2
      simp [encBk]
      omega
theorem HpR.liveAt {w : World} {h : Hp} (H : HpR w h) {k : Nat} {y : Bk} (hy : h.bks[k]? = some y) : ∃ gl c, h.lv = .slice (some ⟨gl, 0, none⟩) h.bks.length c ∧ gl < w.heap.size ∧ w.cell? ⟨gl, k * 2, none⟩ = some (.int .i64 y.pb.1) ∧ w.cell? ⟨gl, k * 2 + 1, none⟩ = some y.bv ∧ w.frozen? ⟨gl, k * 2 + 1, none⟩ = false ∧ k < h.bks.length := by
  have hk := (List.getElem?_eq_some_iff.1 hy).1
  obtain ⟨g, c, e, _, hl, _, _, hc, hf⟩ := own_at H.live (by omega)
  have h1 : ∀ j, j < 2 → (h.bks.flatMap encBk)[k * 2 + j]? = (encBk y)[j]? := fun j hj => by
    have e2 : h.bks.flatMap encBk = (h.bks.take k).flatMap encBk ++ (h.bks.drop k).flatMap encBk := by rw [← List.flatMap_append, List.take_append_drop]
    have h3 : ((h.bks.take k).flatMap encBk).length = k * 2 := by rw [flatMap_length (k := 2) (fun _ => rfl), List.length_take]; omega
    obtain ⟨hk', ey⟩ := List.getElem?_eq_some_iff.1 hy
    rw [e2, List.getElem?_append_right (by omega), h3, List.drop_eq_getElem_cons hk', ey, List.flatMap_cons, List.getElem?_append_left (by show _ < 2; omega)]
    congr 1
    omega
  exact ⟨g, c, e, hl, by simpa using hc _ _ (h1 0 (by omega)), hc _ _ (h1 1 (by omega)), hf _, hk⟩
theorem HpR.swap {w : World} {h : Hp} (H : HpR w h) {k : Nat} {y : Bk} (hy : h.bks[k]? = some y) (x : Bk) (hx : x.pb.1 = y.pb.1) (hr : w.ownsRow 0 3 1 x.bv x.pb.2.length (intsV x.pb.2)) (hn : ∀ z ∈ h.bks, z.row ≠ x.row) (gl : Nat) (hgl : h.lv.ownBlock = some gl) : HpR (w.setCell ⟨gl, k * 2 + 1, none⟩ x.bv) (swapH h k x) := by
  obtain ⟨g, c, e, -, -, -, -, hk⟩ := H.liveAt hy
  have hgg : g = gl := by rw [e] at hgl; exact Option.some.inj hgl
  subst hgg
  obtain ⟨ccs, hcc⟩ := own_blk hr x.own
  have hne : x.row ≠ g := by
    obtain ⟨cs', e'⟩ := own_blk H.live hgl
    exact ty_ne hcc e' (by decide)
  refine ⟨?_, ?_, ?_, fun e => ?_, fun e => ?_, ?_⟩
  · show (w.setCell ⟨g, _, none⟩ _).heap[h.blk]? = some (.cells h.cells _ _)
    rw [heap_setCell_other _ _ _ _ (fun e => H.ne_live hgl e.symm)]
    exact H.cells
  · show (w.setCell ⟨g, _, none⟩ _).ownsRow 0 _ 2 h.lv (h.bks.set k _).length ((h.bks.set k _).flatMap encBk)
    have := H.live
    rw [e] at this ⊢
    rw [List.length_set, flat_swap h.bks k x y hy hx]
    exact own_set this _ _
  · intro z hz
    have hz : z ∈ h.bks.set k x := hz
    rcases List.mem_or_eq_of_mem_set hz with hz | rfl
    · exact own_same (H.rows z hz) fun b hb => by
        cases hb
        exact heap_setCell_other _ _ _ _ (H.live_row hgl hz)
    · exact own_same hr fun b hb => by
        cases hb
        exact heap_setCell_other _ _ _ _ hne
  · show (w.setCell ⟨g, _, none⟩ _).heap[h.wb]? = some (.cells h.wrow _ _)
    rw [heap_setCell_other _ _ _ _ (H.live_wb hgl (.inl e))]
    exact H.w1 e
  · show (w.setCell ⟨g, _, none⟩ _).heap[h.wb]? = some (.cells h.wrow _ _)
    rw [heap_setCell_other _ _ _ _ (H.live_wb hgl (.inr e))]
    exact H.w2 e
  · show ((h.bks.set k x).map (·.row)).Nodup
    rw [List.map_set]
    refine List.nodup_iff_pairwise_ne.2 ?_
    have hp := List.nodup_iff_pairwise_ne.1 H.apart
    rw [List.pairwise_iff_getElem] at hp ⊢
    intro i j hi hj hij
    rw [List.length_set] at hi hj
    rw [List.getElem_set, List.getElem_set]
    have hmem : ∀ i (hi : i < (h.bks.map (·.row)).length), (h.bks.map (·.row))[i] ≠ x.row := fun i hi => by
      rw [List.getElem_map]
      exact hn _ (List.getElem_mem _)
    split
    · rw [if_neg (by omega)]
      exact fun e => hmem j hj e.symm
    · split
      · exact hmem i hi
      · exact hp i j hi hj hij
theorem Did.swap {w w1 : World} {h h1 : Hp} (a : Did w h w1 h1) {k : Nat} {y : Bk} (hy : h1.bks[k]? = some y) (x : Bk) (hx : x.pb.1 = y.pb.1) (hr : w1.ownsRow 0 3 1 x.bv x.pb.2.length (intsV x.pb.2)) (hn : w.heap.size ≤ x.row) (hz : ∀ z ∈ h1.bks, z.row ≠ x.row) (gl : Nat) (hgl : h1.lv.ownBlock = some gl) : Did w h (w1.setCell ⟨gl, k * 2 + 1, none⟩ x.bv) (swapH h1 k x) := by
  have hR := a.rep.swap hy x hx hr hz gl hgl
  refine ⟨hR, a.turn.trans ((Turn.refl _ _).set (S := h1.fp) (.inr (.inl hgl)) _) (fun i hi e => ?_), a.blk, fun b e => ?_⟩
  · rcases a.fp i e with e | e
    · exact e
    · omega
  · rcases e with e | e | ⟨z, hz, e⟩ | e
    · exact a.fp b (.inl e)
    · exact a.fp b (.inr (.inl e))
    · rcases List.mem_or_eq_of_mem_set hz with hz | rfl
      · exact a.fp b (.inr (.inr (.inl ⟨z, hz, e⟩)))
      · exact .inr (by omega)
    · exact a.fp b (.inr (.inr (.inr e)))
theorem m_swap (h : Hp) (k : Nat) (x : Bk) : (swapH h k x).m = { h.m with live := h.m.live.set k x.pb } := by
  unfold swapH Hp.m
  simp only [List.map_set]
/-! what holds of every heap stays -/
theorem shape_fit {size : Int} {l l' : List PB} (h : Fit size l) (e : l'.map shape = l.map shape) : Fit size l' := by
  refine ⟨h.sz, fun x hx => ?_, ?_⟩
  · have : shape x ∈ l.map shape := by rw [← e]; exact List.mem_map_of_mem hx
    obtain ⟨y, hy, e2⟩ := List.mem_map.1 this
    have h1 := h.inn y hy
    unfold shape at e2
    injection e2 with e3 e4
    unfold pend at h1 ⊢
    omega
  · have h1 : (l.map shape).Pairwise fun a b => a.1 + a.2 ≤ b.1 := List.pairwise_map.2 h.ord
    rw [← e] at h1
    exact List.pairwise_map.1 h1
theorem shape_used : ∀ {l l' : List PB}, l'.map shape = l.map shape → used l' = used l
  | [], [], _ => rfl
  | [], _ :: _, h => by simp at h
  | _ :: _, [], h => by simp at h
  | x :: l, y :: l', h => by
    simp only [List.map_cons, List.cons.injEq] at h
    simp only [used]
    rw [shape_used h.2]
    have := h.1
    unfold shape at this
    injection this with _ e
    omega
theorem Inv.shape {m : HM} (I : Inv m) {l' : List PB} (e : l'.map shape = m.live.map shape) : Inv { m with live := l' } := by
  have hx : ∀ x ∈ l', ∃ y ∈ m.live, x.1 = y.1 ∧ x.2.length = y.2.length := fun x hx => by
    have : Go.Proofs.YtegpkcbmgjoicaaGreat.shape x ∈ m.live.map Go.Proofs.YtegpkcbmgjoicaaGreat.shape := by rw [← e]; exact List.mem_map_of_mem hx
    obtain ⟨y, hy, e2⟩ := List.mem_map.1 this
    unfold Go.Proofs.YtegpkcbmgjoicaaGreat.shape at e2
    injection e2 with e3 e4
    exact ⟨y, hy, e3.symm, by omega⟩
  refine ⟨I.kind, shape_fit I.fit e, ?_, I.top, fun hk x hm => ?_, I.piece, fun hk x hm => ?_, ⟨?_, I.peak.2⟩, I.failIn, I.calls⟩
  · show l'.length ≤ 64
    have := congrArg List.length e
    rw [List.length_map, List.length_map] at this
    rw [this]
    exact I.len
  · obtain ⟨y, hy, e1, e2⟩ := hx x hm
    have := I.bump hk y hy
    show pend x ≤ m.top
    unfold pend at this ⊢
    omega
  · obtain ⟨y, hy, e1, e2⟩ := hx x hm
    have := I.pool hk y hy
    show x.1 % m.piece = 0 ∧ x.1 + m.piece ≤ m.size ∧ (x.2.length : Int) ≤ m.piece
    rw [e1, e2]
    exact this
  · show used l' ≤ m.peak
    rw [shape_used e]
    exact I.peak.1
theorem store_inv {m : HM} (I : Inv m) (at_ b : Int) : Inv (storeM m at_ b).1 := by
  unfold storeM
  split
  · split
    · exact I
    · split
      · exact I
      · rename_i k _ x hx
        refine I.shape ?_
        rw [List.map_set]
        refine List.ext_getElem? fun i => ?_
        rw [List.getElem?_set]
        split
        · rename_i e
          subst e
          rw [List.getElem?_map, hx]
          have := (List.getElem?_eq_some_iff.1 hx).1
          simp [this, shape, putB]
        · rfl
  · exact I
end Go.Proofs.YtegpkcbmgjoicaaGreat
