/- The walk of the reference's Decode. Conditions: the bytes read as such. -/
import Derived.Test.YtiilkiggfjpibaaLinkTh
namespace Go.Proofs.Ytiilkiggfjpibaa
open Go.RowKit LK
set_option linter.unusedVariables false
set_option linter.unusedSimpArgs false
theorem numR1 (σ : Rs) : numL (takeR 1 σ).1 = (oneR σ).1 := by
  have hl := takeR_len 1 σ
  unfold oneR
  obtain ⟨x, hx⟩ : ∃ x, (takeR 1 σ).1 = [x] := by
    match (takeR 1 σ).1, hl with
    | [x], _ => exact ⟨x, rfl⟩
  rw [hx]
  simp [numL]
theorem numR2 (σ : Rs) : numL (takeR 2 σ).1 = (twoR σ).1 := by
  have hl := takeR_len 2 σ
  unfold twoR num2
  obtain ⟨x, y, hx⟩ : ∃ x y, (takeR 2 σ).1 = [x, y] := by
    match (takeR 2 σ).1, hl with
    | [x, y], _ => exact ⟨x, y, rfl⟩
  rw [hx]
  simp [numL]
  omega
theorem rone (W0 w : World) (rb : Nat) (σ : Rs) (hR : RdZ W0 w rb σ) : Calls Try.prog 74 #[.pointer (some ⟨rb, 0, none⟩), .int .i64 1] w (RPostZ W0 w rb (.int .i64 (oneR σ).1) (oneR σ).2) := by
  have := number_any W0 w rb 1 σ hR (by decide) (by decide)
  rw [numR1] at this
  exact this
theorem rtwo (W0 w : World) (rb : Nat) (σ : Rs) (hR : RdZ W0 w rb σ) : Calls Try.prog 74 #[.pointer (some ⟨rb, 0, none⟩), .int .i64 2] w (RPostZ W0 w rb (.int .i64 (twoR σ).1) (twoR σ).2) := by
  have := number_any W0 w rb 2 σ hR (by decide) (by decide)
  rw [numR2] at this
  exact this
theorem step_appnew {P : Program} {t e size bytes : Nat} {w : World} {base : Nat} {ops : Array Oper} {o : Oper} {a : Act} {K : Act → World → Prop} {Q' : Exit → Act → World → Prop} {E0 : Prop}
    (hgd : o.guard = none) (E : El P t e size bytes) (s x : Operand) (ho : o.op = .call { callee := .builtin .append, args := #[s, x], argTypes := #[t, t] }) {b0 A : Option Addr} {m c B : Nat} {news : List Value} (hs : a.eval s = .slice b0 0 0) (hx : a.eval x = .slice A m c)
    (hown : w.ownsRow base e size (.slice b0 0 0) 0 []) (hA : A = none → m = 0 ∧ c = 0) (hl : news.length = m * size) (hr : Rd w B A news) (h1 : ∀ u ∈ news, u.oneCell' = true) (hb : m * bytes ≤ 140737488355328) (hbase : base ≤ w.heap.size)
    (h : ∀ v w', w'.ownsRow base e size v m news → Q w w' → K (a.put o.dst v) w') : if Region.wanted o (yielded ops a.tmps) = true then Oper.wp P o a w K Q' else E0 := by
  have hw : Region.wanted o (yielded ops a.tmps) = true := by simp [Region.wanted, hgd]
  rw [if_pos hw]
  obtain ⟨v, w', hr2, h2, h3⟩ := run_append_new (P := P) E hown hA hl hr h1 hb hbase o.type
  unfold Oper.wp execOp
  simp only [ho, resolve, invoke, builtin, Sem.run_bind, Sem.run_pure, Result.andThen_ok, List.map_toArray, List.map_cons, List.map_nil, hs, hx, hr2]
  exact h v w' h2 h3
def DecPR (w : World) (b : Bs) (e : Ending) (w' : World) : Prop :=
  Q w w' ∧ ((decBadR b (decR b) = true ∧ e = .returned (.tuple #[.agg #[.slice none 0 0, .slice none 0 0, .slice none 0 0], .int .i64 11])) ∨
    (decBadR b (decR b) = false ∧ ∃ vb vs vw, e = .returned (.tuple #[.agg #[vb, vs, vw], .int .i64 0]) ∧ w'.ownsRow w.heap.size 5 1 vb (decR b).1.1.length ((decR b).1.1.map (Value.int .u8)) ∧ w'.ownsRow w.heap.size 94 2 vs (decR b).1.2.1.length ((decR b).1.2.1.flatMap encSym) ∧ w'.ownsRow w.heap.size 97 3 vw (decR b).1.2.2.length ((decR b).1.2.2.flatMap encWnt) ∧ (In8 (decR b).1.1 ∧ (∀ x ∈ (decR b).1.2.1, x.1.size ≤ 255) ∧ ∀ x ∈ (decR b).1.2.2, x.2.2.size ≤ 255)))
theorem own_nl {w' : World} {B e s n c m : Nat} {A : Option Addr} {xs : List Value} (h : w'.ownsRow B e s (.slice A n c) m xs) (hA : A = none) : n = 0 ∧ c = 0 := by
  rcases h.2 with ⟨e0, _⟩ | ⟨g, cap, cur, e0, _⟩
  · injection e0 with _ a b
    exact ⟨a, b⟩
  · rw [hA] at e0
    cases e0
theorem manyR_len {α : Type} (f : Rs → α × Rs) : ∀ (k : Nat) (σ : Rs), (manyR f k σ).1.length ≤ k
  | 0, σ => Nat.le_refl _
  | k + 1, σ => by
    unfold manyR
    split
    · simp
    · have := manyR_len f k (f σ).2
      simp only [List.length_cons]
      omega
set_option maxRecDepth 100000 in
set_option maxHeartbeats 8000000 in
theorem rDecode_any (l : SlV Int) (w : World) (hb : B8 w l) (hi : In8 l.xs) : Calls Try.prog 34 #[l.val] w (DecPR w l.xs) := by
  obtain ⟨A, n, c, xs⟩ := l
  unfold SlV.val
  dsimp only at hi ⊢
  obtain ⟨w3, hw3⟩ : ∃ w3, ((w.alloc (.cells #[.slice none 0 0, .slice none 0 0, .slice none 0 0] 34)).alloc (.cells #[.slice A n c, .bool false] 118)).alloc (.cells #[.slice none 0 0, .slice none 0 0, .slice none 0 0] 34) = w3 := ⟨_, rfl⟩
  have hq3 : Q w w3 := by rw [← hw3]; exact (((Q.refl w).alloc _).alloc _).alloc _
  have hI : DecZ w w3 (.slice none 0 0) (.slice none 0 0) (.slice none 0 0) [] [] [] (xs, false) := by
    have a1 := heap_alloc_new w (.cells #[.slice none 0 0, .slice none 0 0, .slice none 0 0] 34)
    have a2 := heap_alloc_new (w.alloc (.cells #[.slice none 0 0, .slice none 0 0, .slice none 0 0] 34)) (.cells #[.slice A n c, .bool false] 118)
    have a3 := heap_alloc_new ((w.alloc (.cells #[.slice none 0 0, .slice none 0 0, .slice none 0 0] 34)).alloc (.cells #[.slice A n c, .bool false] 118)) (.cells #[.slice none 0 0, .slice none 0 0, .slice none 0 0] 34)
    have b1 := (heap_alloc_old (w.alloc (.cells #[.slice none 0 0, .slice none 0 0, .slice none 0 0] 34)) (.cells #[.slice A n c, .bool false] 118) (r := w.heap.size) (by simp)).trans a1
    have b2 := (heap_alloc_old ((w.alloc (.cells #[.slice none 0 0, .slice none 0 0, .slice none 0 0] 34)).alloc (.cells #[.slice A n c, .bool false] 118)) (.cells #[.slice none 0 0, .slice none 0 0, .slice none 0 0] 34) (r := w.heap.size) (by simp; omega)).trans b1
    have b3 := (heap_alloc_old ((w.alloc (.cells #[.slice none 0 0, .slice none 0 0, .slice none 0 0] 34)).alloc (.cells #[.slice A n c, .bool false] 118)) (.cells #[.slice none 0 0, .slice none 0 0, .slice none 0 0] 34) (r := w.heap.size + 1) (by simp)).trans (show _ = some (Obj.cells #[.slice A n c, .bool false] 118 (0, 0)) by rw [show (w.alloc (.cells #[.slice none 0 0, .slice none 0 0, .slice none 0 0] 34)).heap.size = w.heap.size + 1 by simp] at a2; exact a2)
    rw [hw3] at b2 b3 a3
    exact ⟨⟨hq3, by omega, ⟨⟨A, n, c, xs⟩, b3, hb, rfl⟩, hi⟩, b2, (by rw [show ((w.alloc (.cells #[.slice none 0 0, .slice none 0 0, .slice none 0 0] 34)).alloc (.cells #[.slice A n c, .bool false] 118)).heap.size = w.heap.size + 2 by simp] at a3; exact a3), World.ownsRow_nil _ _ _ _, World.ownsRow_nil _ _ _ _, World.ownsRow_nil _ _ _ _, fun x hx => (by cases hx), fun x hx => (by cases hx), fun x hx => (by cases hx)⟩
  have h2 := twoR_in (σ := (xs, false)) hi
  obtain ⟨k0, hk0⟩ : ∃ k0 : Nat, (twoR (xs, false)).1 = k0 := ⟨(twoR (xs, false)).1.toNat, by omega⟩
  have hT2 := rtwo w w3 _ _ hI.rd
  rw [hk0] at hT2 h2
  obtain ⟨P, hP⟩ : ∃ P, bytesR (xs, false) = P := ⟨_, rfl⟩
  have hP2 : takeR k0 (twoR (xs, false)).2 = P := by rw [← hP]; unfold bytesR; rw [hk0]; rfl
  obtain ⟨N, hN⟩ : ∃ N, oneR P.2 = N := ⟨_, rfl⟩
  obtain ⟨S, hS⟩ : ∃ S, manyR symR N.1.toNat N.2 = S := ⟨_, rfl⟩
  obtain ⟨M, hM⟩ : ∃ M, oneR S.2 = M := ⟨_, rfl⟩
  obtain ⟨T, hT⟩ : ∃ T, manyR wntR M.1.toNat M.2 = T := ⟨_, rfl⟩
  have HD := hide (show decR xs = ((P.1, S.1, T.1), T.2) by unfold decR; simp only [hP, hN, hS, hM, hT])
  have HT2 := hide hT2
  have HBX := hide hb
  have HIX := hide hi
  have hk0b : k0 < 65536 := by omega
  have HW3 := hide hw3
  have HI := hide hI
  have HQ3 := hide hq3
  have HP2 := hide hP2
  have HN := hide hN
  have HS := hide hS
  have HM := hide hM
  have HT := hide hT
  clear hw3 hI hq3 hP2 hN hS hM hT
  clear hb hP h2 hk0 hT2
  go_enter Try.func34, Try.ntmps34
  go_wp2_with fail
  rw [HW3.out]
  rw [show w.heap.size + 1 + 1 = w.heap.size + 2 from rfl]
  refine HT2.out.mono ?_
  rintro e w4 ⟨rfl, hr4, hg4⟩
  have HI4 := hide (HI.out.reader hr4 hg4)
  have hi4 := hr4.i8
  have c0 : w4.cell? ⟨w.heap.size + 2, 0, none⟩ = some (.slice none 0 0) := cell_blkJ (j := 0) HI4.out.ob rfl
  have HTK := hide (fun W (h : RdZ w W (w.heap.size + 1) (twoR (xs, false)).2) => HP2.out ▸ rtake_any w W _ k0 _ h (by omega))
  have hs4 : w.heap.size + 2 < w4.heap.size := (Array.getElem?_eq_some_iff.1 HI4.out.ob).1
  have hPin := HP2.out ▸ takeR_in (n := k0) hi4
  have hPl := HP2.out ▸ takeR_len k0 (twoR (xs, false)).2
  have HPI := hide hPin
  have HPL := hide hPl
  clear hr4 hg4 hPin hPl hi4
  go_wp2_with fail
  go_region_law (first
    | (go_simp; go_at_call 75; refine (HTK.out _ (HI4.out.rd.up (Q.refl w4).drew)).mono ?_; rintro e w5 ⟨l5, rfl, hx5, hn5, hb5, hr5, hg5⟩; have HI5 := hide ((HI4.out.up (Q.refl w4).drew).reader hr5 hg5); have c5 : w5.cell? ⟨w.heap.size + 2, 0, none⟩ = some (.slice none 0 0) := (cell_blkJ (j := 0) HI5.out.ob rfl); have hlt5 : w.heap.size + 2 < w5.heap.size := (Array.getElem?_eq_some_iff.1 HI5.out.ob).1; have HB5 := hide hb5; have HX5 := hide hx5; obtain ⟨l5A, l5n, l5c, l5x⟩ := l5; unfold SlV.val; dsimp only at hn5 HX5 ⊢; subst hn5; clear hr5 hg5 hb5 hx5)
    | (refine step_appnew (by rfl) El_u8 _ _ (by rfl) (by rfl) (by rfl) (World.ownsRow_nil w5 w.heap.size 5 1) HB5.out.nil_ ?_ HB5.out.sl.rd (one_cell one_b8 _) ?_ ?_ ?_; (focus (rw [flatMap_length (k := 1) (fun _ => rfl), HB5.out.sl.len])); (focus (dsimp only; omega)); (focus omega); intro v6 w6 hown6 hq6; have HI6 := hide (HI5.out.up hq6); have c6 : w6.cell? ⟨w.heap.size + 2, 0, none⟩ = some (.slice none 0 0) := (cell_blkJ (j := 0) HI6.out.ob rfl); have f6 : w6.frozen? ⟨w.heap.size + 2, 0, none⟩ = false := (free_blk HI6.out.ob 0); obtain ⟨A6, d6, e6, -⟩ := own_form hown6; subst e6; have HO6 := hide hown6; clear hown6 hq6))
  all_goals (
    obtain ⟨w7, hw7⟩ : ∃ w7, w6.setCell ⟨w.heap.size + 2, 0, none⟩ (.slice A6 l5n d6) = w7 := ⟨_, rfl⟩
    have hl5 := HB5.out.sl.len
    dsimp only at hl5
    have ho6 := HO6.out
    rw [flat8] at ho6
    have ho6' : w6.ownsRow w.heap.size 5 1 (.slice A6 l5n d6) l5x.length (l5x.map (Value.int .u8)) := by rw [hl5]; exact ho6
    have hI7 := HI6.out.bytes ho6' (by rw [HX5.out]; exact HPI.out)
    rw [hw7, HX5.out] at hI7
    have HI7 := hide hI7
    have HW7 := hide hw7
    have h1 := oneR_in HI7.out.rd.i8
    rw [HN.out] at h1
    have hO := rone w w7 _ _ HI7.out.rd
    rw [HN.out] at hO
    obtain ⟨N1, σ1⟩ := N
    obtain ⟨n1, rfl⟩ : ∃ n1 : Nat, N1 = n1 := ⟨N1.toNat, by dsimp only at h1; omega⟩
    dsimp only at h1 hO
    have hn1 : n1 < 256 := by omega
    have HO := hide hO
    clear hI7 ho6 ho6' hw7 h1 hO hl5 c6 f6
    go_wp2_with fail
    rw [HW7.out]
    refine HO.out.mono ?_
    rintro e w8 ⟨rfl, hr8, hg8⟩
    have HI8 := hide (HI7.out.reader hr8 hg8)
    clear hr8 hg8
    go_wp2_with fail
    go_loopw [8] (fun vi wr => ∃ (k : Nat) (vs : Value) (ss : List Sym) (σ : Rs), k ≤ n1 ∧ vi = .int .i64 k ∧ ss.length = k ∧ DecZ w wr (.slice A6 l5n d6) vs (.slice none 0 0) P.1 ss [] σ ∧ S = (ss ++ (manyR symR (n1 - k) σ).1, (manyR symR (n1 - k) σ).2)) (fun vi _ => n1 - (intOf vi).toNat)
    case atStart => exact ⟨0, _, [], σ1, by omega, by go_num, rfl, HI8.out, by rw [← HS.out]; show manyR symR (n1 : Int).toNat σ1 = _; rw [Int.toNat_natCast]; rfl⟩
    case round =>
      obtain ⟨k, vs, ssk, ⟨Lk, shk⟩, hk, rfl, hsl, hI, hS⟩ := hrel
      have HIk := hide hI
      have HSL := hide hsl
      have HSK := hide hS
      obtain ⟨⟨lA, ln, lc, lx⟩, hbk, -, -⟩ := hI.rd.st
      have cs1 : wr.cell? ⟨w.heap.size + 1, 1, none⟩ = some (.bool shk) := cell_blkJ (j := 1) hbk rfl
      clear hbk hI hS hsl
      by_cases hgo : k < n1 ∧ shk = false
      · obtain ⟨hlt, rfl⟩ := hgo
        have hd1 : decide ((k : Int) < (n1 : Int)) = true := by simp; omega
        have hd0 : decide (k < n1) = true := by simp; omega
        have hlti : (k : Int) < (n1 : Int) := by omega
        have hO := rone w wr _ _ HIk.out.rd
        have hk1 := oneR_in HIk.out.rd.i8
        have hnl := nameR_len HIk.out.rd.i8
        have hss : symR (Lk, false) = ((strI (nameR (Lk, false)).1, (twoR (nameR (Lk, false)).2).1), (twoR (nameR (Lk, false)).2).2) := rfl
        have hnr : nameR (Lk, false) = takeR (oneR (Lk, false)).1.toNat (oneR (Lk, false)).2 := rfl
        obtain ⟨⟨K1, σ2⟩, hoe⟩ : ∃ p, oneR (Lk, false) = p := ⟨_, rfl⟩
        rw [hoe] at hO hk1 hnr
        dsimp only at hO hk1 hnr
        obtain ⟨k1, rfl⟩ : ∃ k1 : Nat, K1 = k1 := ⟨K1.toNat, by omega⟩
        rw [Int.toNat_natCast] at hnr
        obtain ⟨⟨nb, τ⟩, hte⟩ : ∃ p, takeR k1 σ2 = p := ⟨_, rfl⟩
        rw [hte] at hnr
        rw [hnr] at hss hnl
        dsimp only at hss hnl
        have hsz : (strI nb).size ≤ 255 := by rw [strI_size]; exact hnl
        have hk1b : k1 < 256 := by omega
        have HO := hide hO
        have HSS := hide hss
        have HTE := hide hte
        clear hO hk1 hnl hss hnr hoe hte
        go_wp2_with fail
        refine HO.out.mono ?_
        rintro e w9 ⟨rfl, hr9, hg9⟩
        have HI9 := hide (HIk.out.reader hr9 hg9)
        have hT := rtake_any w w9 _ k1 _ hr9 (by omega)
        rw [HTE.out] at hT
        have hnin : In8 nb := by have := takeR_in (n := k1) hr9.i8; rw [HTE.out] at this; exact this
        have HT9 := hide hT
        clear hr9 hg9 hT
        go_wp2_with fail
        refine HT9.out.mono ?_
        rintro e w10 ⟨l, rfl, hx, hln, hb10, hr10, hg10⟩
        have hcv := conv_sl Try.underlying30 Try.underlying5 Try.underlying9 hb10.sl (by rw [hx]; exact hnin)
        rw [hx] at hcv
        obtain ⟨lA, ln, lc, lx⟩ := l
        dsimp only at hcv hln hr10
        subst hln
        unfold SlV.val
        dsimp only
        have HI10 := hide (HI9.out.reader hr10 hg10)
        have HT10 := hide (rtwo w w10 _ _ HI10.out.rd)
        clear hx hb10 hr10 hg10 hnin
        go_wp2_with fail
        refine HT10.out.mono ?_
        rintro e w11 ⟨rfl, hr11, hg11⟩
        have hI11 := HI10.out.reader hr11 hg11
        obtain ⟨As, cs, rfl, -⟩ := own_form hI11.s
        rw [HSL.out] at hI11
        have c1 : w11.cell? ⟨w.heap.size + 2, 1, none⟩ = some (.slice As k cs) := cell_blkJ (j := 1) hI11.ob rfl
        have hki : k ≤ 255 := by omega
        have HI11 := hide hI11
        have hlt11 : w.heap.size + 2 < w11.heap.size := (Array.getElem?_eq_some_iff.1 hI11.ob).1
        obtain ⟨nm, hnm⟩ : ∃ nm, strI nb = nm := ⟨_, rfl⟩
        rw [hnm] at hsz ⊢
        have HNM := hide hnm
        clear hr11 hg11 hI11 hcv cs1 hnm
        go_wp2_with (at_builtin; go_loud (refine wpList_app1g rfl El_sym _ _ rfl rfl HI11.out.s rfl rfl rfl ?_ ?_ ?_ ?_; (focus (intro u hu; simp at hu; rcases hu with rfl | rfl <;> rfl)); (focus (rw [HSL.out]; omega)); (focus omega); intro v12 w12 hown12 hg12; have HO12 := hide hown12; have HG12 := hide hg12; have b12 := (blk_other HI11.out.ob HI11.out.s hg12 (by decide)); have c12 : w12.cell? ⟨w.heap.size + 2, 1, none⟩ = some (.slice As k cs) := (cell_blkJ (j := 1) b12 rfl); have f12 : w12.frozen? ⟨w.heap.size + 2, 1, none⟩ = false := (free_blk b12 1); obtain ⟨A12, d12, e12, -⟩ := own_form hown12; subst e12; clear hown12 hg12 b12))
        clear c12 f12 c1
        go_roundw
        case rel => exact ⟨k + 1, _, ssk ++ [(nm, (twoR τ).1)], (twoR τ).2, by omega, by go_num, by rw [List.length_append, HSL.out]; rfl, HI11.out.sym (x := (nm, (twoR τ).1)) HO12.out HG12.out hsz, by
          rw [HSK.out]
          obtain ⟨d, hd⟩ : ∃ d, n1 - k = d + 1 := ⟨n1 - k - 1, by omega⟩
          rw [hd, manyR_go rfl, HSS.out, show n1 - (k + 1) = d by omega, HNM.out]
          simp⟩
        case measure => simp [intOf] <;> omega
      · have hSe : S = (ssk, (Lk, shk)) := by
          rw [HSK.out]
          by_cases hk2 : k < n1
          · rw [manyR_stop (show (Lk, shk).2 = true by cases shk with | true => rfl | false => exact absurd ⟨hk2, rfl⟩ hgo)]
            simp
          · rw [show n1 - k = 0 by omega]
            simp [manyR]
        have HSE := hide hSe
        have h1 := oneR_in HIk.out.rd.i8
        have hO := rone w wr _ _ HIk.out.rd
        have hMe := HM.out
        rw [hSe] at hMe
        dsimp only at hMe
        rw [hMe] at h1 hO
        obtain ⟨M1, τ1⟩ := M
        obtain ⟨m1, rfl⟩ : ∃ m1 : Nat, M1 = m1 := ⟨M1.toNat, by dsimp only at h1; omega⟩
        dsimp only at h1 hO
        have hm1 : m1 < 256 := by omega
        have HO := hide hO
        have htest : (decide ((k : Int) < (n1 : Int)) = false) ∨ (decide ((k : Int) < (n1 : Int)) = true ∧ shk = true) := by
          by_cases hk2 : k < n1
          · exact .inr ⟨decide_eq_true (by omega), by cases shk with | true => rfl | false => exact absurd ⟨hk2, rfl⟩ hgo⟩
          · exact .inl (decide_eq_false (by omega))
        clear h1 hO hMe hSe hgo
        have htest2 : (decide (k < n1) = decide ((k : Int) < (n1 : Int))) := by simp
        rcases htest with ht | ⟨ht, rfl⟩
        all_goals (
          rw [ht] at htest2
          go_wp2_with fail
          refine HO.out.mono ?_
          rintro e w9 ⟨rfl, hr9, hg9⟩
          have HI9 := hide (HIk.out.reader hr9 hg9)
          clear hr9 hg9 ht htest2 cs1
          go_wp2_with fail
          go_loopw [13] (fun vi wr => ∃ (j : Nat) (vw : Value) (wsj : List Wnt) (σ : Rs), j ≤ m1 ∧ vi = .int .i64 j ∧ wsj.length = j ∧ DecZ w wr (.slice A6 l5n d6) vs vw P.1 ssk wsj σ ∧ T = (wsj ++ (manyR wntR (m1 - j) σ).1, (manyR wntR (m1 - j) σ).2)) (fun vi _ => m1 - (intOf vi).toNat)
          case atStart => exact ⟨0, _, [], τ1, by omega, by go_num, rfl, HI9.out, by rw [← HT.out]; show manyR wntR (m1 : Int).toNat τ1 = _; rw [Int.toNat_natCast]; rfl⟩
          case round =>
            obtain ⟨j, vw, wsj, ⟨Lj, shj⟩, hj, rfl, hwl, hI, hS⟩ := hrel
            have HIj := hide hI
            have HWL := hide hwl
            have HSJ := hide hS
            obtain ⟨⟨lA, ln, lc, lx⟩, hbk, -, -⟩ := hI.rd.st
            have cs1 : wr.cell? ⟨w.heap.size + 1, 1, none⟩ = some (.bool shj) := cell_blkJ (j := 1) hbk rfl
            clear hbk hI hS hwl
            by_cases hgo : j < m1 ∧ shj = false
            · obtain ⟨hlt, rfl⟩ := hgo
              have hd1 : decide ((j : Int) < (m1 : Int)) = true := by simp; omega
              have hd0 : decide (j < m1) = true := by simp; omega
              have hlti : (j : Int) < (m1 : Int) := by omega
              have hKd := rone w wr _ _ HIj.out.rd
              have hkd := oneR_in HIj.out.rd.i8
              have hss : wntR (Lj, false) = (((twoR (nameR (oneR (Lj, false)).2).2).1, (oneR (Lj, false)).1, strI (nameR (oneR (Lj, false)).2).1), (twoR (nameR (oneR (Lj, false)).2).2).2) := rfl
              obtain ⟨⟨kd, σ0⟩, hoe0⟩ : ∃ p, oneR (Lj, false) = p := ⟨_, rfl⟩
              rw [hoe0] at hKd hkd hss
              dsimp only at hKd hkd hss
              have HKD := hide hKd
              have HSS0 := hide hss
              clear hKd hss hoe0
              go_wp2_with fail
              refine HKD.out.mono ?_
              rintro e w10 ⟨rfl, hr10, hg10⟩
              have HI10 := hide (HIj.out.reader hr10 hg10)
              have hss := HSS0.out
              have hO := rone w w10 _ _ hr10
              have hk1 := oneR_in hr10.i8
              have hnl := nameR_len hr10.i8
              have hnr : nameR σ0 = takeR (oneR σ0).1.toNat (oneR σ0).2 := rfl
              obtain ⟨⟨K1, σ2⟩, hoe⟩ : ∃ p, oneR σ0 = p := ⟨_, rfl⟩
              rw [hoe] at hO hk1 hnr
              dsimp only at hO hk1 hnr
              obtain ⟨k1, rfl⟩ : ∃ k1 : Nat, K1 = k1 := ⟨K1.toNat, by omega⟩
              rw [Int.toNat_natCast] at hnr
              obtain ⟨⟨nb, τ⟩, hte⟩ : ∃ p, takeR k1 σ2 = p := ⟨_, rfl⟩
              rw [hte] at hnr
              rw [hnr] at hss hnl
              dsimp only at hss hnl
              have hsz : (strI nb).size ≤ 255 := by rw [strI_size]; exact hnl
              have hk1b : k1 < 256 := by omega
              have HO := hide hO
              have HSS := hide hss
              have HTE := hide hte
              clear hO hk1 hnl hss hnr hoe hte hr10 hg10
              go_wp2_with fail
              refine HO.out.mono ?_
              rintro e w11 ⟨rfl, hr11, hg11⟩
              have HI11 := hide (HI10.out.reader hr11 hg11)
              have hT := rtake_any w w11 _ k1 _ hr11 (by omega)
              rw [HTE.out] at hT
              have hnin : In8 nb := by have := takeR_in (n := k1) hr11.i8; rw [HTE.out] at this; exact this
              have HT9 := hide hT
              clear hr11 hg11 hT
              go_wp2_with fail
              refine HT9.out.mono ?_
              rintro e w12 ⟨l, rfl, hx, hln, hb12, hr12, hg12⟩
              have hcv := conv_sl Try.underlying30 Try.underlying5 Try.underlying9 hb12.sl (by rw [hx]; exact hnin)
              rw [hx] at hcv
              obtain ⟨lA, ln, lc, lx⟩ := l
              dsimp only at hcv hln hr12
              subst hln
              unfold SlV.val
              dsimp only
              have HI12 := hide (HI11.out.reader hr12 hg12)
              have HT12 := hide (rtwo w w12 _ _ HI12.out.rd)
              clear hx hb12 hr12 hg12 hnin
              go_wp2_with fail
              refine HT12.out.mono ?_
              rintro e w13 ⟨rfl, hr13, hg13⟩
              have hI13 := HI12.out.reader hr13 hg13
              obtain ⟨Aw, cw, rfl, -⟩ := own_form hI13.t
              rw [HWL.out] at hI13
              have c1 : w13.cell? ⟨w.heap.size + 2, 2, none⟩ = some (.slice Aw j cw) := cell_blkJ (j := 2) hI13.ob rfl
              have hji : j ≤ 255 := by omega
              have HI13 := hide hI13
              have hlt13 : w.heap.size + 2 < w13.heap.size := (Array.getElem?_eq_some_iff.1 hI13.ob).1
              obtain ⟨nm, hnm⟩ : ∃ nm, strI nb = nm := ⟨_, rfl⟩
              rw [hnm] at hsz ⊢
              have HNM := hide hnm
              clear hr13 hg13 hI13 hcv cs1 hnm
              go_wp2_with (at_builtin; go_loud (refine wpList_app1g rfl El_wnt _ _ rfl rfl HI13.out.t rfl rfl rfl ?_ ?_ ?_ ?_; (focus (intro u hu; simp at hu; rcases hu with rfl | rfl | rfl <;> rfl)); (focus (rw [HWL.out]; omega)); (focus omega); intro v14 w14 hown14 hg14; have HO14 := hide hown14; have HG14 := hide hg14; have b14 := (blk_other HI13.out.ob HI13.out.t hg14 (by decide)); have c14 : w14.cell? ⟨w.heap.size + 2, 2, none⟩ = some (.slice Aw j cw) := (cell_blkJ (j := 2) b14 rfl); have f14 : w14.frozen? ⟨w.heap.size + 2, 2, none⟩ = false := (free_blk b14 2); obtain ⟨A14, d14, e14, -⟩ := own_form hown14; subst e14; clear hown14 hg14 b14))
              clear c14 f14 c1
              go_roundw
              case rel => exact ⟨j + 1, _, wsj ++ [((twoR τ).1, kd, nm)], (twoR τ).2, by omega, by go_num, by rw [List.length_append, HWL.out]; rfl, HI13.out.wnt (x := ((twoR τ).1, kd, nm)) HO14.out HG14.out hsz, by
                rw [HSJ.out]
                obtain ⟨d, hd⟩ : ∃ d, m1 - j = d + 1 := ⟨m1 - j - 1, by omega⟩
                rw [hd, manyR_go rfl, HSS.out, show m1 - (j + 1) = d by omega, HNM.out]
                simp⟩
              case measure => simp [intOf] <;> omega
            · have hTe : T = (wsj, (Lj, shj)) := by
                rw [HSJ.out]
                by_cases hk2 : j < m1
                · rw [manyR_stop (show (Lj, shj).2 = true by cases shj with | true => rfl | false => exact absurd ⟨hk2, rfl⟩ hgo)]
                  simp
                · rw [show m1 - j = 0 by omega]
                  simp [manyR]
              have htest3 : (decide ((j : Int) < (m1 : Int)) = false) ∨ (decide ((j : Int) < (m1 : Int)) = true ∧ shj = true) := by
                by_cases hk2 : j < m1
                · exact .inr ⟨decide_eq_true (by omega), by cases shj with | true => rfl | false => exact absurd ⟨hk2, rfl⟩ hgo⟩
                · exact .inl (decide_eq_false (by omega))
              have hbad : decBadR xs (decR xs) = (shj || (!(validF P.1.length ssk wsj == 0) || !(encL P.1 ssk wsj == xs))) := by rw [HD.out, hTe, HSE.out]; rfl
              have hdt : (decR xs).1 = (P.1, ssk, wsj) := by rw [HD.out, hTe, HSE.out]
              have HBAD := hide hbad
              have HDT := hide hdt
              obtain ⟨As, cs, rfl, -⟩ := own_form HIj.out.s
              obtain ⟨Aw, cw, rfl, -⟩ := own_form HIj.out.t
              have hl5 := HB5.out.sl.len
              dsimp only at hl5
              rw [HX5.out] at hl5
              obtain ⟨N6, hN6⟩ : ∃ N6, ssk.length = N6 := ⟨_, rfl⟩
              obtain ⟨N7, hN7⟩ : ∃ N7, wsj.length = N7 := ⟨_, rfl⟩
              have hIj := HIj.out
              rw [hN6, hN7] at hIj
              have hob : ObR wr (⟨A6, l5n, d6, P.1⟩, ⟨As, N6, cs, ssk⟩, ⟨Aw, N7, cw, wsj⟩) := by
                have e0 := hIj.b
                have e1 := hIj.s
                have e2 := hIj.t
                rw [hl5] at e0
                rw [hN6] at e1
                rw [hN7] at e2
                exact ⟨by rw [← hl5] at e0 ⊢; exact Sl.own (by rw [flat8]; exact e0) (fun _ => rfl) (by decide), by rw [← hN6] at e1 ⊢; exact Sl.own e1 (fun _ => rfl) (by decide), by rw [← hN7] at e2 ⊢; exact Sl.own e2 (fun _ => rfl) (by decide), own_nl e0, own_nl e1, own_nl e2, hIj.bi, fun x hx => by have := hIj.sn x hx; omega, fun x hx => by have := hIj.tn x hx; omega⟩
              have hE := rEncode_any _ wr hob
              have hvd : OV.valid (⟨A6, l5n, d6, P.1⟩, ⟨As, N6, cs, ssk⟩, ⟨Aw, N7, cw, wsj⟩) = validF P.1.length ssk wsj := by
                show validF l5n ssk wsj = _
                rw [hl5]
              obtain ⟨E, hEe⟩ : ∃ E, encR (⟨A6, l5n, d6, P.1⟩, ⟨As, N6, cs, ssk⟩, ⟨Aw, N7, cw, wsj⟩) = E := ⟨_, rfl⟩
              have hEg : validF P.1.length ssk wsj = 0 → E = encL P.1 ssk wsj := by
                intro h0
                rw [← hEe]
                unfold encR
                rw [if_pos (by rw [hvd]; exact h0)]
              have hEi : In8 E := by
                rw [← hEe]
                exact encR_in hob.bok
              rw [hvd, hEe] at hE
              unfold obV SlV.val at hE
              dsimp only at hE
              obtain ⟨vd, hvde⟩ : ∃ vd, validF P.1.length ssk wsj = vd := ⟨_, rfl⟩
              rw [hvde] at hE hEg
              have HE := hide hE
              have HEG := hide hEg
              have HEI := hide hEi
              have HVD := hide hvde
              have HN6 := hide hN6
              have HN7 := hide hN7
              have HL5 := hide hl5
              have HJ := hide hIj
              have o0 : wr.cell? ⟨w.heap.size + 2, 0, none⟩ = some (.slice A6 l5n d6) := cell_blkJ (j := 0) hIj.ob rfl
              have o1 : wr.cell? ⟨w.heap.size + 2, 1, none⟩ = some (.slice As N6 cs) := cell_blkJ (j := 1) hIj.ob rfl
              have o2 : wr.cell? ⟨w.heap.size + 2, 2, none⟩ = some (.slice Aw N7 cw) := cell_blkJ (j := 2) hIj.ob rfl
              have htest4 : (decide (j < m1) = decide ((j : Int) < (m1 : Int))) := by simp
              have hsj : decide ((j : Int) < (m1 : Int)) = false ∨ shj = true := htest3.imp id And.right
              clear hE hEg hEi hvde hN6 hN7 hl5 hIj hvd hEe hob hTe hgo hbad hdt hsj
              cases shj with
              | true =>
                rcases htest3 with ht | ⟨ht, -⟩
                all_goals (
                  rw [ht] at htest4
                  go_wp2_with fail
                  refine HE.out.mono ?_
                  rintro e w10 ⟨v, rfl, hv, hq10⟩
                  obtain ⟨⟨fA, fn, fc, fx⟩, rfl, hfx, hfn, hb10⟩ := B8.own hv
                  dsimp only at hfx hfn
                  subst hfx
                  subst hfn
                  unfold SlV.val
                  dsimp only
                  have hI10 := HJ.out.up hq10
                  obtain ⟨⟨lA2, ln2, lc2, lx2⟩, hbk, -, -⟩ := hI10.rd.st
                  have cs2 : w10.cell? ⟨w.heap.size + 1, 1, none⟩ = some (.bool true) := cell_blkJ (j := 1) hbk rfl
                  have r0 : w10.cell? ⟨w.heap.size, 0, none⟩ = some (.slice none 0 0) := cell_blkJ (j := 0) hI10.d0 rfl
                  have r1 : w10.cell? ⟨w.heap.size, 1, none⟩ = some (.slice none 0 0) := cell_blkJ (j := 1) hI10.d0 rfl
                  have r2 : w10.cell? ⟨w.heap.size, 2, none⟩ = some (.slice none 0 0) := cell_blkJ (j := 2) hI10.d0 rfl
                  have f0 := free_blk hI10.d0 0
                  have f1 := free_blk hI10.d0 1
                  have f2 := free_blk hI10.d0 2
                  have o0 : w10.cell? ⟨w.heap.size + 2, 0, none⟩ = some (.slice A6 l5n d6) := cell_blkJ (j := 0) hI10.ob rfl
                  have o1 : w10.cell? ⟨w.heap.size + 2, 1, none⟩ = some (.slice As N6 cs) := cell_blkJ (j := 1) hI10.ob rfl
                  have o2 : w10.cell? ⟨w.heap.size + 2, 2, none⟩ = some (.slice Aw N7 cw) := cell_blkJ (j := 2) hI10.ob rfl
                  have HI10 := hide hI10
                  clear hv hq10 hb10 hI10 hbk cs1
                  obtain ⟨s0, s1, s2⟩ := set3 w10 w.heap.size _ _ _ (.slice none 0 0) (.slice none 0 0) (.slice none 0 0) r0 r1 r2
                  have hdn := HI10.out.done (.slice none 0 0) (.slice none 0 0) (.slice none 0 0)
                  have HDN := hide hdn
                  have S0 := hide s0
                  have S1 := hide s1
                  have S2 := hide s2
                  have HB := hide (show decBadR xs (decR xs) = true by rw [HBAD.out]; rfl)
                  clear s0 s1 s2 hdn 
                  go_wp2_with fail
                  have s0 := S0.out
                  have s1 := S1.out
                  have s2 := S2.out
                  refine bodyPost_ret (v := .tuple #[.agg #[.slice none 0 0, .slice none 0 0, .slice none 0 0], .int .i64 11]) (by simp [results, Try.results34, go_sem, s0, s1, s2]) rfl ?_
                  exact ⟨HDN.out.1, .inl ⟨HB.out, rfl⟩⟩)
              | false =>
                have ht : decide ((j : Int) < (m1 : Int)) = false := htest3.elim id fun h => absurd h.2 Bool.false_ne_true
                rw [ht] at htest4
                go_wp2_with fail
                refine HE.out.mono ?_
                rintro e w10 ⟨v, rfl, hv, hq10⟩
                obtain ⟨⟨fA, fn, fc, fx⟩, rfl, hfx, hfn, hb10⟩ := B8.own hv
                dsimp only at hfx hfn
                subst hfx
                subst hfn
                unfold SlV.val
                dsimp only
                have hI10 := HJ.out.up hq10
                obtain ⟨⟨lA2, ln2, lc2, lx2⟩, hbk, -, -⟩ := hI10.rd.st
                have cs2 : w10.cell? ⟨w.heap.size + 1, 1, none⟩ = some (.bool false) := cell_blkJ (j := 1) hbk rfl
                have r0 : w10.cell? ⟨w.heap.size, 0, none⟩ = some (.slice none 0 0) := cell_blkJ (j := 0) hI10.d0 rfl
                have r1 : w10.cell? ⟨w.heap.size, 1, none⟩ = some (.slice none 0 0) := cell_blkJ (j := 1) hI10.d0 rfl
                have r2 : w10.cell? ⟨w.heap.size, 2, none⟩ = some (.slice none 0 0) := cell_blkJ (j := 2) hI10.d0 rfl
                have f0 := free_blk hI10.d0 0
                have f1 := free_blk hI10.d0 1
                have f2 := free_blk hI10.d0 2
                have o0 : w10.cell? ⟨w.heap.size + 2, 0, none⟩ = some (.slice A6 l5n d6) := cell_blkJ (j := 0) hI10.ob rfl
                have o1 : w10.cell? ⟨w.heap.size + 2, 1, none⟩ = some (.slice As N6 cs) := cell_blkJ (j := 1) hI10.ob rfl
                have o2 : w10.cell? ⟨w.heap.size + 2, 2, none⟩ = some (.slice Aw N7 cw) := cell_blkJ (j := 2) hI10.ob rfl
                have cv1 := conv_sl Try.underlying30 Try.underlying5 Try.underlying9 hb10.sl HEI.out
                have cv2 := conv_sl Try.underlying30 Try.underlying5 Try.underlying9 (HBX.out.up (HJ.out.rd.q.trans hq10)).sl HIX.out
                have btt := bl_strI HEI.out HIX.out
                dsimp only at cv1 cv2 btt
                have HI10 := hide hI10
                clear hv hq10 hb10 hI10 hbk cs1
                rcases Nat.eq_zero_or_pos vd with hv0 | hv0
                · have hd4 : ((vd : Int) != 0) = false := by rw [hv0]; rfl
                  have hfx := HEG.out hv0
                  by_cases hxe : fx = xs
                  · have tt : ((strI fx).toList == (strI xs).toList) = true := btt.2 hxe
                    obtain ⟨s0, s1, s2⟩ := set3 w10 w.heap.size _ _ _ (.slice A6 l5n d6) (.slice As N6 cs) (.slice Aw N7 cw) r0 r1 r2
                    have hdn := HI10.out.done (.slice A6 l5n d6) (.slice As N6 cs) (.slice Aw N7 cw)
                    have HDN := hide hdn
                    have S0 := hide s0
                    have S1 := hide s1
                    have S2 := hide s2
                    have HB := hide (show decBadR xs (decR xs) = false by rw [HBAD.out, HVD.out, hv0, ← hfx, hxe]; simp)
                    clear s0 s1 s2 hdn hv0 hfx hxe btt
                    go_wp2_with fail
                    go_simp
                    go_wp2_with fail
                    go_simp
                    go_wp2_with fail
                    have s0 := S0.out
                    have s1 := S1.out
                    have s2 := S2.out
                    refine bodyPost_ret (v := .tuple #[.agg #[.slice A6 l5n d6, .slice As N6 cs, .slice Aw N7 cw], .int .i64 0]) (by simp [results, Try.results34, go_sem, s0, s1, s2]) rfl ?_
                    obtain ⟨d1, d2, d3, d4⟩ := HDN.out
                    refine ⟨d1, .inr ⟨HB.out, _, _, _, rfl, ?_⟩⟩
                    rw [HDT.out]
                    dsimp only
                    exact ⟨d2, d3, d4, HI10.out.bi, HI10.out.sn, HI10.out.tn⟩
                  · have tt : ((strI fx).toList == (strI xs).toList) = false := Bool.eq_false_iff.2 fun h => hxe (btt.1 h)
                    have hbx : (encL P.1 ssk wsj == xs) = false := by rw [← hfx]; exact beq_false_of_ne hxe
                    obtain ⟨s0, s1, s2⟩ := set3 w10 w.heap.size _ _ _ (.slice none 0 0) (.slice none 0 0) (.slice none 0 0) r0 r1 r2
                    have hdn := HI10.out.done (.slice none 0 0) (.slice none 0 0) (.slice none 0 0)
                    have HDN := hide hdn
                    have S0 := hide s0
                    have S1 := hide s1
                    have S2 := hide s2
                    have HB := hide (show decBadR xs (decR xs) = true by rw [HBAD.out, HVD.out, hbx]; simp)
                    clear s0 s1 s2 hdn hv0 hfx hxe btt hbx
                    go_wp2_with fail
                    go_simp
                    go_wp2_with fail
                    go_simp
                    go_wp2_with fail
                    have s0 := S0.out
                    have s1 := S1.out
                    have s2 := S2.out
                    refine bodyPost_ret (v := .tuple #[.agg #[.slice none 0 0, .slice none 0 0, .slice none 0 0], .int .i64 11]) (by simp [results, Try.results34, go_sem, s0, s1, s2]) rfl ?_
                    exact ⟨HDN.out.1, .inl ⟨HB.out, rfl⟩⟩
                · have hd4 : ((vd : Int) != 0) = true := by simp; omega
                  obtain ⟨s0, s1, s2⟩ := set3 w10 w.heap.size _ _ _ (.slice none 0 0) (.slice none 0 0) (.slice none 0 0) r0 r1 r2
                  have hdn := HI10.out.done (.slice none 0 0) (.slice none 0 0) (.slice none 0 0)
                  have HDN := hide hdn
                  have S0 := hide s0
                  have S1 := hide s1
                  have S2 := hide s2
                  have HB := hide (show decBadR xs (decR xs) = true by rw [HBAD.out, HVD.out, (beq_false_of_ne (by omega) : (vd == 0) = false)]; rfl)
                  clear s0 s1 s2 hdn hv0 btt
                  go_wp2_with fail
                  have s0 := S0.out
                  have s1 := S1.out
                  have s2 := S2.out
                  refine bodyPost_ret (v := .tuple #[.agg #[.slice none 0 0, .slice none 0 0, .slice none 0 0], .int .i64 11]) (by simp [results, Try.results34, go_sem, s0, s1, s2]) rfl ?_
                  exact ⟨HDN.out.1, .inl ⟨HB.out, rfl⟩⟩
          ))
end Go.Proofs.Ytiilkiggfjpibaa
